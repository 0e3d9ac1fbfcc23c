/- Mr: part 9 of the proof that the law's row holds: the printed walk of the program's functions, the plain law, the row. -/
import Derived.Test.YtlmfoblgheepoaaGreatDoorProg
import Derived.Below
import Derived.Deep.Draws
import Derived.Deep.AppendLies
import Derived.Maps.AppendAt
import Derived.OwnWalk
import Derived.Laws.BytesArg
import Derived.Laws.MakeOwn
import Derived.Laws.OwnMore
import Derived.Deep.OwnRows
import Derived.Tactics
import Derived.Lib.ConvBytes
import Derived.Laws.Slices
import Derived.WalkKit
import Derived.KernelRfl
import Derived.RowKit3
import Derived.Deep.LoopGhost
import Derived.Deep.QuietTactic
import Derived.BigQuiet
import Derived.WideLaws
import Derived.Deep.DeepCutAuto
import Derived.Deep.CutBlock
import Derived.Deep.RegionHeld3
import Derived.Laws.Rows
import Derived.Lib.AppendStr
import Derived.ArgAppend
import Derived.Laws.IdiomCopy
import Derived.OrdersHeld
import Derived.Laws.BitsLemmas
import Derived.RowKit
import Derived.Sort.KeysCollected
import Derived.WalkSpells
import Derived.Test.YtlmfoblgheepoaaGreatDoorQMr0
import Derived.Test.YtlmfoblgheepoaaGreatDoorQMr1
import Derived.Test.YtlmfoblgheepoaaGreatDoorQMr4
import Derived.Test.YtlmfoblgheepoaaGreatDoorQMr5
import Derived.Test.YtlmfoblgheepoaaGreatDoorQMr6
import Derived.Test.YtlmfoblgheepoaaGreatDoorQMr7
namespace Go.Proofs.YtlmfoblgheepoaaGreatDoor.Z
open Go.RowKit Go.Proofs.YtlmfoblgheepoaaGreatDoorW.PrintWords Go.Proofs.YtlmfoblgheepoaaGreatDoorW.PrintLast Go.Proofs.YtlmfoblgheepoaaGreatDoorW.PrintMore
def bm (n b : Nat) : Array Bool := ((List.range n).map (fun i => b.testBit i)).toArray
section
variable {P : Program} {ops : Array Oper} {Q : Exit → Act → World → Prop} {md : Region.Mode} {S : World → Prop} {ds : List Nat} {T : Bool × List (List Nat × List Nat)} {B : List Nat}
theorem pz (i : Nat) (N : Option Tmp) (l' : Array Bool) {oi : Oper} {v : Value} {fuel : Nat} {l : Array Bool} {a a' : Act} {w : World} (hT : Aside0 (rtab md ops = T)) (h : wpAnyLast P md ops Q S ds fuel l' a' w)
  (hi : ops[i]? = some oi := by exact rfl) (hN : oi.dst = N := by exact rfl) (hc : anyT T l.toList l'.toList i = true := by kernel_rfl) (hQ : ∀ c a w, Q (.panic c) (a.put oi.dst v) w → Q (.panic c) a w := by exact fun _ _ _ h => h)
  (hw : Region.wanted oi (yielded ops a.tmps) = true := by rfl) (hy : ∀ w', (execOp a.eval oi).run P w' = .ok (.value v) w' := by intro w'; go_simp; with_reducible rfl) (ha : a.put N v = a' := by simp only [Act.put, List.setIfInBounds_toArray, List.set_cons_zero, List.set_cons_succ, i64_w, i32_w]; rfl) :
  wpAnyLast P md ops Q S ds (fuel + 1) l a w := pure_ l' hi hN (any_of hT.out hc) hQ (Or.inl ⟨hw, hy⟩) ha h
theorem uz (i : Nat) (N : Option Tmp) (l' : Array Bool) {oi : Oper} {fuel : Nat} {l : Array Bool} {a a' : Act} {w : World} (hT : Aside0 (rtab md ops = T)) (h : wpAnyLast P md ops Q S ds fuel l' a' w)
  (hi : ops[i]? = some oi := by exact rfl) (hN : oi.dst = N := by exact rfl) (hc : anyT T l.toList l'.toList i = true := by kernel_rfl) (hQ : ∀ c a w, Q (.panic c) (a.put oi.dst undef) w → Q (.panic c) a w := by exact fun _ _ _ h => h)
  (hw : Region.wanted oi (yielded ops a.tmps) = false := by rfl) (ha : a.put N undef = a' := by simp only [Act.put, List.setIfInBounds_toArray, List.set_cons_zero, List.set_cons_succ, i64_w, i32_w]; rfl) :
  wpAnyLast P md ops Q S ds (fuel + 1) l a w := pure_ l' hi hN (any_of hT.out hc) hQ (Or.inr ⟨hw, rfl⟩) ha h
theorem tz (i : Nat) (N : Option Tmp) (l' : Array Bool) {oi : Oper} {v : Value} {fuel : Nat} {l : Array Bool} {a a' : Act} {w : World} (hT : Aside0 (rtab md ops = T)) (hB : Aside0 (waitsOk T.2 B = true)) (hS : S w) (h : wpAnyLast P md ops Q S ds fuel l' a' w)
  (hi : ops[i]? = some oi := by exact rfl) (hN : oi.dst = N := by exact rfl) (hc : takeW T B ds l.toList l'.toList i = true := by kernel_rfl) (hQ : ∀ c a w, Q (.panic c) (a.put oi.dst v) w → Q (.panic c) a w := by exact fun _ _ _ h => h)
  (hw : Region.wanted oi (yielded ops a.tmps) = true := by rfl) (hy : ∀ w', S w' → (execOp a.eval oi).run P w' = .ok (.value v) w' := by intro w' hs_; go_split_ands; go_simp; with_reducible rfl) (ha : a.put N v = a' := by simp only [Act.put, List.setIfInBounds_toArray, List.set_cons_zero, List.set_cons_succ, i64_w, i32_w]; rfl) :
  wpAnyLast P md ops Q S ds (fuel + 1) l a w := take_ l' hi hN (take_ofW hT.out hB.out hc) hQ (Or.inl ⟨hw, hy⟩) hS ha h
theorem nz (N : Option Tmp) {v : Value} {fuel : Nat} {l : Array Bool} {a a' : Act} {w : World} (h : wpAnyLast P md ops Q S ds fuel l a' w) (ha : Act.put a N v = a' := by simp only [Act.put, List.setIfInBounds_toArray, List.set_cons_zero, List.set_cons_succ, i64_w, i32_w]; rfl) : wpAnyLast P md ops Q S ds fuel l (a.put N v) w := norm_ ha h
end
theorem zq0 {p : Prop} (h : p := by go_simp; rfl) : p := h
theorem zq1 {p : Prop} (h : p := by first | rfl | (simp; done) | (simp [*]; done)) : p := h
theorem zq2 {p : Prop} (h : p := by repeat (first | exact Drawn0.refl _ | apply Drawn0.step)) : p := h
theorem zq3 {p : Prop} (h : p := by first | (go_simp; done) | (go_simp; rfl)) : p := h
theorem zq4 {p : Prop} (h : p := by rw [hg]; exact (below_size (by repeat (first | (with_reducible first | exact HB.out | apply below_alloc | apply pw_below_drewN | apply below_drew1) | exact HB.out)))) : p := h
theorem zq5 {p : Prop} (h : p := by repeat (first | (with_reducible first | exact HB.out | apply below_alloc | apply pw_below_drewN | apply below_drew1) | exact HB.out)) : p := h
theorem zq6 {p : Prop} (h : p := by first | rfl | (simp [errW_none, errW_some] <;> rfl) | (simp [*, errW_none, errW_some] <;> rfl)) : p := h
theorem zq7 {p : Prop} (h : p := by (try simp only [List.map_toArray, List.map_cons, List.map_nil]); first | done | rfl | (simp only [List.length_drop, List.length_take]; rfl) | (simp (disch := omega) only [wrap64_of]; done) | (simp (disch := omega) only [wrap64_of]; rfl)) : p := h
theorem zq8 {p : Prop} (h : p := by (with_reducible repeat (first | refine blk_drewN ?_ _ | refine blk_drew ?_ | refine blk_alloc ?_ _)); exact BK105.out) : p := h
theorem zq9 {p : Prop} (h : p := by repeat (first | (with_reducible first | exact HB.out | apply below_alloc | apply pw_below_drewN | apply below_drew1 | refine below_set ?_ GE105.out) | exact HB.out)) : p := h
theorem zq10 {p : Prop} (h : p := by first | omega | exact Nat.le_refl _) : p := h
theorem zq11 {p : Prop} (h : p := by rw [hg]; exact (below_size (by repeat (first | (with_reducible first | exact HB.out | apply below_alloc | apply pw_below_drewN | apply below_drew1 | refine below_set ?_ GE112.out) | exact HB.out)))) : p := h
theorem zq12 {p : Prop} (h : p := by repeat (first | (with_reducible first | exact HB.out | apply below_alloc | apply pw_below_drewN | apply below_drew1 | refine below_set ?_ GE112.out) | exact HB.out)) : p := h
theorem zq13 {p : Prop} (h : p := by rw [hg]; exact Nat.ne_of_lt (blk_lt (g := gb112) (o := .cells #[.string a0_0, .string a0_1, .int .i64 a0_2] 29 (0, 0)) (by (with_reducible repeat (first | refine blk_drewN ?_ _ | refine blk_drew ?_ | refine blk_alloc ?_ _)); exact BK112.out))) : p := h
theorem zq14 {p : Prop} (h : p := by (with_reducible repeat (first | refine blk_drewN ?_ _ | refine blk_drew ?_ | refine blk_alloc ?_ _)); exact BK112.out) : p := h
theorem zq15 {p : Prop} (h : p := by rw [hg]; exact Nat.ne_of_gt (blk_lt (g := gb112) (o := .cells #[.string a0_0, .string a0_1, .int .i64 a0_2] 29 (0, 0)) (by (with_reducible repeat (first | refine blk_drewN ?_ _ | refine blk_drew ?_ | refine blk_alloc ?_ _)); exact BK112.out))) : p := h
theorem zq16 {p : Prop} (h : p := by (with_reducible repeat (first | refine blk_drewN ?_ _ | refine blk_drew ?_ | refine blk_alloc ?_ _)); exact BK113.out) : p := h
theorem zq17 {p : Prop} (h : p := by repeat (first | (with_reducible first | exact HB.out | apply below_alloc | apply pw_below_drewN | apply below_drew1 | refine below_set ?_ GE112.out | refine below_set ?_ GE113.out) | exact HB.out)) : p := h
theorem zq18 {p : Prop} (h : p := by first | (with_reducible assumption) | assumption) : p := h
theorem zq19 {p : Prop} (h : p := by repeat (first | (with_reducible first | exact HB.out | apply below_alloc | apply pw_below_drewN | apply below_drew1 | refine below_set ?_ GE119.out) | exact HB.out)) : p := h
theorem zq20 {p : Prop} (h : p := by rw [hg]; exact (below_size (by repeat (first | (with_reducible first | exact HB.out | apply below_alloc | apply pw_below_drewN | apply below_drew1 | refine below_set ?_ GE119.out) | exact HB.out)))) : p := h
theorem zq21 {p : Prop} (h : p := by rw [hg]; exact Nat.ne_of_lt (blk_lt (g := gb119) (o := .cells #[.string ((rd_T29 l0 x11_1).f0), .string ((rd_T29 l0 x11_1).f1), .int .i64 ((rd_T29 l0 x11_1).f2)] 29 (0, 0)) (by (with_reducible repeat (first | refine blk_drewN ?_ _ | refine blk_drew ?_ | refine blk_alloc ?_ _)); exact BK119.out))) : p := h
theorem zq22 {p : Prop} (h : p := by (with_reducible repeat (first | refine blk_drewN ?_ _ | refine blk_drew ?_ | refine blk_alloc ?_ _)); exact BK119.out) : p := h
theorem zq23 {p : Prop} (h : p := by rw [hg]; exact Nat.ne_of_gt (blk_lt (g := gb119) (o := .cells #[.string ((rd_T29 l0 x11_1).f0), .string ((rd_T29 l0 x11_1).f1), .int .i64 ((rd_T29 l0 x11_1).f2)] 29 (0, 0)) (by (with_reducible repeat (first | refine blk_drewN ?_ _ | refine blk_drew ?_ | refine blk_alloc ?_ _)); exact BK119.out))) : p := h
theorem zq24 {p : Prop} (h : p := by (with_reducible repeat (first | refine blk_drewN ?_ _ | refine blk_drew ?_ | refine blk_alloc ?_ _)); refine blk_far ?_ NB119_125.out _; (with_reducible repeat (first | refine blk_drewN ?_ _ | refine blk_drew ?_ | refine blk_alloc ?_ _)); refine blk_far ?_ NB119_125.out _; (with_reducible repeat (first | refine blk_drewN ?_ _ | refine blk_drew ?_ | refine blk_alloc ?_ _)); refine blk_far ?_ NB119_125.out _; (with_reducible repeat (first | refine blk_drewN ?_ _ | refine blk_drew ?_ | refine blk_alloc ?_ _)); exact BK119.out) : p := h
theorem zq25 {p : Prop} (h : p := by (with_reducible repeat (first | refine blk_drewN ?_ _ | refine blk_drew ?_ | refine blk_alloc ?_ _)); refine blk_put (cs := #[.string ((rd_T29 y120 x20_2).f0), .string ((rd_T29 y120 x20_2).f1), .int .i64 0]) ?_ 2 _ rfl; (with_reducible repeat (first | refine blk_drewN ?_ _ | refine blk_drew ?_ | refine blk_alloc ?_ _)); refine blk_put (cs := #[.string ((rd_T29 y120 x20_2).f0), .string (⟨#[]⟩ : ByteArray), .int .i64 0]) ?_ 1 _ rfl; (with_reducible repeat (first | refine blk_drewN ?_ _ | refine blk_drew ?_ | refine blk_alloc ?_ _)); refine blk_put (cs := #[.string (⟨#[]⟩ : ByteArray), .string (⟨#[]⟩ : ByteArray), .int .i64 0]) ?_ 0 _ rfl; (with_reducible repeat (first | refine blk_drewN ?_ _ | refine blk_drew ?_ | refine blk_alloc ?_ _)); exact BK125.out) : p := h
theorem zq26 {p : Prop} (h : p := by repeat (first | (with_reducible first | exact HB.out | apply below_alloc | apply pw_below_drewN | apply below_drew1 | refine below_set ?_ GE119.out | refine below_set ?_ GE125.out) | exact HB.out)) : p := h
theorem zq27 {p : Prop} (h : p := by have := HK1.out; have := HK2.out; omega) : p := h
theorem zq28 {p : Prop} (h : p := by repeat (first | exact (Kd.C_below HR0.out HB.out) | (with_reducible refine Kd.C_alloc ?_ _) | (with_reducible refine Kd.C_drewN ?_ _) | (with_reducible refine Kd.C_drew ?_))) : p := h
theorem zq29 {p : Prop} (h : p := by exact HC0.out) : p := h
theorem zq30 {p : Prop} (h : p := by (with_reducible repeat (first | refine blk_drewN ?_ _ | refine blk_drew ?_ | refine blk_alloc ?_ _)); refine blk_put (cs := #[.string ((rd_T29 l0 x8_1).f0), .string ((rd_T29 l0 x8_1).f1), .int .i64 0]) ?_ 2 _ rfl; (with_reducible repeat (first | refine blk_drewN ?_ _ | refine blk_drew ?_ | refine blk_alloc ?_ _)); refine blk_put (cs := #[.string ((rd_T29 l0 x8_1).f0), .string (⟨#[]⟩ : ByteArray), .int .i64 0]) ?_ 1 _ rfl; (with_reducible repeat (first | refine blk_drewN ?_ _ | refine blk_drew ?_ | refine blk_alloc ?_ _)); refine blk_put (cs := #[.string (⟨#[]⟩ : ByteArray), .string (⟨#[]⟩ : ByteArray), .int .i64 0]) ?_ 0 _ rfl; (with_reducible repeat (first | refine blk_drewN ?_ _ | refine blk_drew ?_ | refine blk_alloc ?_ _)); exact BK128.out) : p := h
theorem zq31 {p : Prop} (h : p := by repeat (first | (with_reducible first | exact HB.out | apply below_alloc | apply pw_below_drewN | apply below_drew1 | refine below_set ?_ GE128.out) | exact HB.out)) : p := h
theorem zq32 {p : Prop} (h : p := by have := HK1.out; omega) : p := h
theorem zq33 {p : Prop} (h : p := by exact Glb.below HGLB.out (by repeat (first | (with_reducible first | exact HB.out | apply below_alloc | apply pw_below_drewN | apply below_drew1) | exact HB.out))) : p := h
theorem zq34 {p : Prop} (h : p := by (with_reducible repeat (first | refine blk_drewN ?_ _ | refine blk_drew ?_ | refine blk_alloc ?_ _)); refine blk_put (cs := #[.string ((rd_T29 l0 x29_2).f0), .string ((rd_T29 l0 x29_2).f1), .int .i64 0]) ?_ 2 _ rfl; (with_reducible repeat (first | refine blk_drewN ?_ _ | refine blk_drew ?_ | refine blk_alloc ?_ _)); refine blk_put (cs := #[.string ((rd_T29 l0 x29_2).f0), .string (⟨#[]⟩ : ByteArray), .int .i64 0]) ?_ 1 _ rfl; (with_reducible repeat (first | refine blk_drewN ?_ _ | refine blk_drew ?_ | refine blk_alloc ?_ _)); refine blk_put (cs := #[.string (⟨#[]⟩ : ByteArray), .string (⟨#[]⟩ : ByteArray), .int .i64 0]) ?_ 0 _ rfl; (with_reducible repeat (first | refine blk_drewN ?_ _ | refine blk_drew ?_ | refine blk_alloc ?_ _)); exact BK139.out) : p := h
theorem zq35 {p : Prop} (h : p := by repeat (first | (with_reducible first | exact HB.out | apply below_alloc | apply pw_below_drewN | apply below_drew1 | refine below_set ?_ GE139.out) | exact HB.out)) : p := h
theorem zq36 {p : Prop} (h : p := by (with_reducible repeat (first | refine blk_drewN ?_ _ | refine blk_drew ?_ | refine blk_alloc ?_ _)); exact BK139.out) : p := h
theorem zq37 {p : Prop} (h : p := by first | rfl | (simp; done) | (simp; rfl)) : p := h
theorem zq38 {p : Prop} (h : p := by (with_reducible repeat (first | refine blk_drewN ?_ _ | refine blk_drew ?_ | refine blk_alloc ?_ _)); exact BK143.out) : p := h
theorem zq39 {p : Prop} (h : p := by repeat (first | (with_reducible first | exact HB.out | apply below_alloc | apply pw_below_drewN | apply below_drew1 | refine below_set ?_ GE143.out) | exact HB.out)) : p := h
theorem zq40 {p : Prop} (h : p := by rw [hg]; exact (below_size (by repeat (first | (with_reducible first | exact HB.out | apply below_alloc | apply pw_below_drewN | apply below_drew1 | refine below_set ?_ GE143.out) | exact HB.out)))) : p := h
theorem zq41 {p : Prop} (h : p := by rw [hg]; exact Nat.ne_of_lt (blk_lt (g := gb143) (o := .cells #[.int .i64 0, .int .i64 0] 40 (0, 0)) (by (with_reducible repeat (first | refine blk_drewN ?_ _ | refine blk_drew ?_ | refine blk_alloc ?_ _)); exact BK143.out))) : p := h
theorem zq42 {p : Prop} (h : p := by rw [hg]; exact Nat.ne_of_gt (blk_lt (g := gb143) (o := .cells #[.int .i64 0, .int .i64 0] 40 (0, 0)) (by (with_reducible repeat (first | refine blk_drewN ?_ _ | refine blk_drew ?_ | refine blk_alloc ?_ _)); exact BK143.out))) : p := h
theorem zq43 {p : Prop} (h : p := by (with_reducible repeat (first | refine blk_drewN ?_ _ | refine blk_drew ?_ | refine blk_alloc ?_ _)); refine blk_far ?_ NB143_148.out _; (with_reducible repeat (first | refine blk_drewN ?_ _ | refine blk_drew ?_ | refine blk_alloc ?_ _)); refine blk_far ?_ NB143_148.out _; (with_reducible repeat (first | refine blk_drewN ?_ _ | refine blk_drew ?_ | refine blk_alloc ?_ _)); refine blk_far ?_ NB143_148.out _; (with_reducible repeat (first | refine blk_drewN ?_ _ | refine blk_drew ?_ | refine blk_alloc ?_ _)); exact BK143.out) : p := h
theorem zq44 {p : Prop} (h : p := by (with_reducible repeat (first | refine blk_drewN ?_ _ | refine blk_drew ?_ | refine blk_alloc ?_ _)); refine blk_put (cs := #[.string ((rd_T29 l0 a1).f0), .string ((rd_T29 l0 a1).f1), .int .i64 0]) ?_ 2 _ rfl; (with_reducible repeat (first | refine blk_drewN ?_ _ | refine blk_drew ?_ | refine blk_alloc ?_ _)); refine blk_put (cs := #[.string ((rd_T29 l0 a1).f0), .string (⟨#[]⟩ : ByteArray), .int .i64 0]) ?_ 1 _ rfl; (with_reducible repeat (first | refine blk_drewN ?_ _ | refine blk_drew ?_ | refine blk_alloc ?_ _)); refine blk_put (cs := #[.string (⟨#[]⟩ : ByteArray), .string (⟨#[]⟩ : ByteArray), .int .i64 0]) ?_ 0 _ rfl; (with_reducible repeat (first | refine blk_drewN ?_ _ | refine blk_drew ?_ | refine blk_alloc ?_ _)); exact BK148.out) : p := h
theorem zq45 {p : Prop} (h : p := by repeat (first | (with_reducible first | exact HB.out | apply below_alloc | apply pw_below_drewN | apply below_drew1 | refine below_set ?_ GE143.out | refine below_set ?_ GE148.out) | exact HB.out)) : p := h
theorem zq46 {p : Prop} (h : p := by (with_reducible repeat (first | refine blk_drewN ?_ _ | refine blk_drew ?_ | refine blk_alloc ?_ _)); refine blk_put (cs := #[.int .i64 (wrap64 (t149 * t151)), .int .i64 0]) ?_ 1 _ rfl; (with_reducible repeat (first | refine blk_drewN ?_ _ | refine blk_drew ?_ | refine blk_alloc ?_ _)); refine blk_put (cs := #[.int .i64 0, .int .i64 0]) ?_ 0 _ rfl; (with_reducible repeat (first | refine blk_drewN ?_ _ | refine blk_drew ?_ | refine blk_alloc ?_ _)); exact BK143.out) : p := h
theorem zq47 {p : Prop} (h : p := by (with_reducible repeat (first | refine blk_drewN ?_ _ | refine blk_drew ?_ | refine blk_alloc ?_ _)); exact BK148.out) : p := h
theorem zq48 {p : Prop} (h : p := by first | rfl | (simp; done)) : p := h
theorem zq49 {p : Prop} (h : p := by repeat (first | exact HB2.out | apply below_alloc | apply pw_below_drewN | apply below_drew1)) : p := h
theorem zq50 {p : Prop} (h : p := by repeat (first | exact (Kd.R_reads' HO159.out).2.2 | (with_reducible refine Kd.C_alloc ?_ _) | (with_reducible refine Kd.C_drewN ?_ _) | (with_reducible refine Kd.C_drew ?_))) : p := h
theorem zq51 {p : Prop} (h : p := by (with_reducible repeat (first | apply Kd.R_alloc | apply Kd.R_drewN | apply Kd.R_drew)); exact HO159.out) : p := h
theorem zq52 {p : Prop} (h : p := by repeat (first | (with_reducible first | exact HB.out | apply below_alloc | apply pw_below_drewN | apply below_drew1 | refine below_set ?_ GE165.out) | exact HB.out)) : p := h
theorem zq53 {p : Prop} (h : p := by repeat (first | exact (Kd.R_reads' HO168.out).2.2 | (with_reducible refine Kd.C_alloc ?_ _) | (with_reducible refine Kd.C_drewN ?_ _) | (with_reducible refine Kd.C_drew ?_))) : p := h
theorem zq54 {p : Prop} (h : p := by (with_reducible repeat (first | apply Kd.R_alloc | apply Kd.R_drewN | apply Kd.R_drew)); exact HO168.out) : p := h
theorem zq55 {p : Prop} (h : p := by repeat (first | (with_reducible first | exact HB.out | apply below_alloc | apply pw_below_drewN | apply below_drew1 | refine below_set ?_ GE174.out) | exact HB.out)) : p := h
theorem zq56 {p : Prop} (h : p := by repeat (first | exact (Kd.R_reads' HO177.out).2.2 | (with_reducible refine Kd.C_alloc ?_ _) | (with_reducible refine Kd.C_drewN ?_ _) | (with_reducible refine Kd.C_drew ?_))) : p := h
theorem zq57 {p : Prop} (h : p := by exact (Kd.R_reads' HO177.out).2.1) : p := h
theorem zq58 {p : Prop} (h : p := by (with_reducible repeat (first | apply Kd.R_alloc | apply Kd.R_drewN | apply Kd.R_drew)); exact HO177.out) : p := h
theorem zq59 {p : Prop} (h : p := by (with_reducible repeat (first | apply Kd.R_alloc | apply Kd.R_drewN | apply Kd.R_drew)); exact (Kd.R_mono (Kd.R_far (p := ⟨gb187, 1, none⟩) (Kd.R_far (p := ⟨gb187, 0, none⟩) (Kd.R_types HO177.out BK187.out (by decide)) (fun _ hk => hk.2) (.int .i64 t184)) (fun _ hk => hk.2) (.int .i64 t185)) (fun _ h_ => h_.1))) : p := h
theorem zq60 {p : Prop} (h : p := by repeat (first | (with_reducible first | exact HB.out | apply below_alloc | apply pw_below_drewN | apply below_drew1 | refine below_set ?_ GE187.out) | exact HB.out)) : p := h
theorem zq61 {p : Prop} (h : p := by rw [hg]; exact (below_size (by repeat (first | (with_reducible first | exact HB.out | apply below_alloc | apply pw_below_drewN | apply below_drew1 | refine below_set ?_ GE187.out) | exact HB.out)))) : p := h
theorem zq62 {p : Prop} (h : p := by rw [hg]; exact Nat.ne_of_lt (blk_lt (g := gb187) (o := .cells #[.int .i64 t184, .int .i64 t185] 40 (0, 0)) (by (with_reducible repeat (first | refine blk_drewN ?_ _ | refine blk_drew ?_ | refine blk_alloc ?_ _)); exact BK187.out))) : p := h
theorem zq63 {p : Prop} (h : p := by (with_reducible repeat (first | refine blk_drewN ?_ _ | refine blk_drew ?_ | refine blk_alloc ?_ _)); exact BK187.out) : p := h
theorem zq64 {p : Prop} (h : p := by rw [hg]; exact Nat.ne_of_gt (blk_lt (g := gb187) (o := .cells #[.int .i64 t184, .int .i64 t185] 40 (0, 0)) (by (with_reducible repeat (first | refine blk_drewN ?_ _ | refine blk_drew ?_ | refine blk_alloc ?_ _)); exact BK187.out))) : p := h
theorem zq65 {p : Prop} (h : p := by (with_reducible repeat (first | apply Kd.R_alloc | apply Kd.R_drewN | apply Kd.R_drew)); exact (Kd.R_mono (Kd.R_far (p := ⟨gb191, 1, none⟩) (Kd.R_far (p := ⟨gb191, 0, none⟩) (Kd.R_types HO177.out BK191.out (by decide)) (fun _ hk => hk.2) (.int .i64 t188)) (fun _ hk => hk.2) (.int .i64 t189)) (fun _ h_ => h_.1))) : p := h
theorem zq66 {p : Prop} (h : p := by repeat (first | (with_reducible first | exact HB.out | apply below_alloc | apply pw_below_drewN | apply below_drew1 | refine below_set ?_ GE187.out | refine below_set ?_ GE191.out) | exact HB.out)) : p := h
theorem zq67 {p : Prop} (h : p := by rw [hg]; exact (below_size (by repeat (first | (with_reducible first | exact HB.out | apply below_alloc | apply pw_below_drewN | apply below_drew1 | refine below_set ?_ GE187.out | refine below_set ?_ GE191.out) | exact HB.out)))) : p := h
theorem zq68 {p : Prop} (h : p := by rw [hg]; exact Nat.ne_of_lt (blk_lt (g := gb191) (o := .cells #[.int .i64 t188, .int .i64 t189] 40 (0, 0)) (by (with_reducible repeat (first | refine blk_drewN ?_ _ | refine blk_drew ?_ | refine blk_alloc ?_ _)); exact BK191.out))) : p := h
theorem zq69 {p : Prop} (h : p := by (with_reducible repeat (first | refine blk_drewN ?_ _ | refine blk_drew ?_ | refine blk_alloc ?_ _)); exact BK191.out) : p := h
theorem zq70 {p : Prop} (h : p := by rw [hg]; exact Nat.ne_of_gt (blk_lt (g := gb191) (o := .cells #[.int .i64 t188, .int .i64 t189] 40 (0, 0)) (by (with_reducible repeat (first | refine blk_drewN ?_ _ | refine blk_drew ?_ | refine blk_alloc ?_ _)); exact BK191.out))) : p := h
theorem zq71 {p : Prop} (h : p := by (with_reducible repeat (first | apply Kd.R_alloc | apply Kd.R_drewN | apply Kd.R_drew)); exact (Kd.R_mono (Kd.R_far (p := ⟨gb195, 1, none⟩) (Kd.R_far (p := ⟨gb195, 0, none⟩) (Kd.R_types HO177.out BK195.out (by decide)) (fun _ hk => hk.2) (.int .i64 t192)) (fun _ hk => hk.2) (.int .i64 t193)) (fun _ h_ => h_.1))) : p := h
theorem zq72 {p : Prop} (h : p := by repeat (first | (with_reducible first | exact HB.out | apply below_alloc | apply pw_below_drewN | apply below_drew1 | refine below_set ?_ GE187.out | refine below_set ?_ GE191.out | refine below_set ?_ GE195.out) | exact HB.out)) : p := h
theorem zq73 {p : Prop} (h : p := by rw [hg]; exact (below_size (by repeat (first | (with_reducible first | exact HB.out | apply below_alloc | apply pw_below_drewN | apply below_drew1 | refine below_set ?_ GE187.out | refine below_set ?_ GE191.out | refine below_set ?_ GE195.out) | exact HB.out)))) : p := h
theorem zq74 {p : Prop} (h : p := by (with_reducible repeat (first | refine blk_drewN ?_ _ | refine blk_drew ?_ | refine blk_alloc ?_ _)); exact BK195.out) : p := h
theorem zq75 {p : Prop} (h : p := by (with_reducible repeat (first | apply Kd.R_alloc | apply Kd.R_drewN | apply Kd.R_drew)); exact HO_1.out) : p := h
theorem zq76 {p : Prop} (h : p := by (with_reducible repeat (first | refine blk_drewN ?_ _ | refine blk_drew ?_ | refine blk_alloc ?_ _)); exact BK199.out) : p := h
theorem zq77 {p : Prop} (h : p := by repeat (first | (with_reducible first | exact HB.out | apply below_alloc | apply pw_below_drewN | apply below_drew1 | refine below_set ?_ GE187.out | refine below_set ?_ GE191.out | refine below_set ?_ GE195.out | refine below_set ?_ GE199.out) | exact HB.out)) : p := h
theorem zq78 {p : Prop} (h : p := by repeat (first | exact (Kd.R_reads' HO_1.out).2.2 | (with_reducible refine Kd.C_alloc ?_ _) | (with_reducible refine Kd.C_drewN ?_ _) | (with_reducible refine Kd.C_drew ?_))) : p := h
theorem zq79 {p : Prop} (h : p := by exact (Kd.R_reads' HO_1.out).2.1) : p := h
theorem zq80 {p : Prop} (h : p := by repeat (first | (with_reducible first | exact HB.out | apply below_alloc | apply pw_below_drewN | apply below_drew1 | refine below_set ?_ GE220.out) | exact HB.out)) : p := h
theorem zq81 {p : Prop} (h : p := by exact (Reps.one (show Kd.M (Kd.int .u8) _ _ _ ((wrap64 (48 + (Int.tmod x0_1 10))) % 256) [.int .u8 ((wrap64 (48 + (Int.tmod x0_1 10))) % 256)] from rfl) (Reps.none _ _))) : p := h
theorem zq82 {p : Prop} (h : p := by rw [hg]; exact (below_size (by repeat (first | (with_reducible first | exact HB.out | apply below_alloc | apply pw_below_drewN | apply below_drew1 | refine below_set ?_ GE241.out) | exact HB.out)))) : p := h
theorem zq83 {p : Prop} (h : p := by repeat (first | (with_reducible first | exact HB.out | apply below_alloc | apply pw_below_drewN | apply below_drew1 | refine below_set ?_ GE241.out) | exact HB.out)) : p := h
theorem zq84 {p : Prop} (h : p := by rw [hg]; exact Nat.ne_of_lt (blk_lt (g := gb241) (o := .cells #[.int .i64 a0_0, .int .i64 a0_1, .int .i64 a0_2] 23 (0, 0)) (by (with_reducible repeat (first | refine blk_drewN ?_ _ | refine blk_drew ?_ | refine blk_alloc ?_ _)); exact BK241.out))) : p := h
theorem zq85 {p : Prop} (h : p := by (with_reducible repeat (first | refine blk_drewN ?_ _ | refine blk_drew ?_ | refine blk_alloc ?_ _)); exact BK241.out) : p := h
theorem zq86 {p : Prop} (h : p := by rw [hg]; exact Nat.ne_of_gt (blk_lt (g := gb241) (o := .cells #[.int .i64 a0_0, .int .i64 a0_1, .int .i64 a0_2] 23 (0, 0)) (by (with_reducible repeat (first | refine blk_drewN ?_ _ | refine blk_drew ?_ | refine blk_alloc ?_ _)); exact BK241.out))) : p := h
theorem zq87 {p : Prop} (h : p := by first | (simp only [putAll, Act.put, List.setIfInBounds_toArray, List.set_cons_zero, List.set_cons_succ]; done) | (simp only [putAll, Act.put, List.setIfInBounds_toArray, List.set_cons_zero, List.set_cons_succ]; rfl)) : p := h
theorem zq88 {p : Prop} (h : p := by (with_reducible repeat (first | refine blk_drewN ?_ _ | refine blk_drew ?_ | refine blk_alloc ?_ _)); exact BK242.out) : p := h
theorem zq89 {p : Prop} (h : p := by repeat (first | (with_reducible first | exact HB.out | apply below_alloc | apply pw_below_drewN | apply below_drew1 | refine below_set ?_ GE241.out | refine below_set ?_ GE242.out) | exact HB.out)) : p := h
theorem zq90 {p : Prop} (h : p := by rw [hg]; exact (below_size (by repeat (first | (with_reducible first | exact HB.out | apply below_alloc | apply pw_below_drewN | apply below_drew1 | refine below_set ?_ GE241.out | refine below_set ?_ GE242.out) | exact HB.out)))) : p := h
theorem zq91 {p : Prop} (h : p := by rw [hg]; exact Nat.ne_of_lt (blk_lt (g := gb242) (o := .cells #[.string (⟨#[]⟩ : ByteArray), .string (⟨#[]⟩ : ByteArray), .int .i64 0] 29 (0, 0)) (by (with_reducible repeat (first | refine blk_drewN ?_ _ | refine blk_drew ?_ | refine blk_alloc ?_ _)); exact BK242.out))) : p := h
theorem zq92 {p : Prop} (h : p := by rw [hg]; exact Nat.ne_of_gt (blk_lt (g := gb242) (o := .cells #[.string (⟨#[]⟩ : ByteArray), .string (⟨#[]⟩ : ByteArray), .int .i64 0] 29 (0, 0)) (by (with_reducible repeat (first | refine blk_drewN ?_ _ | refine blk_drew ?_ | refine blk_alloc ?_ _)); exact BK242.out))) : p := h
theorem zq93 {p : Prop} (h : p := by (with_reducible repeat (first | refine blk_drewN ?_ _ | refine blk_drew ?_ | refine blk_alloc ?_ _)); exact BK249.out) : p := h
theorem zq94 {p : Prop} (h : p := by repeat (first | (with_reducible first | exact HB.out | apply below_alloc | apply pw_below_drewN | apply below_drew1 | refine below_set ?_ GE241.out | refine below_set ?_ GE242.out | refine below_set ?_ GE249.out) | exact HB.out)) : p := h
theorem zq95 {p : Prop} (h : p := by exact (Reps.none _ _)) : p := h
theorem zq96 {p : Prop} (h : p := by (with_reducible repeat (first | apply Kd.R_alloc | apply Kd.R_drewN | apply Kd.R_drew)); exact HO_3.out) : p := h
theorem zq97 {p : Prop} (h : p := by repeat (first | exact (Kd.R_reads' HO_3.out).2.2 | (with_reducible refine Kd.C_alloc ?_ _) | (with_reducible refine Kd.C_drewN ?_ _) | (with_reducible refine Kd.C_drew ?_))) : p := h
theorem zq98 {p : Prop} (h : p := by exact (by repeat (first | (with_reducible first | exact HB.out | apply below_alloc | apply pw_below_drewN | apply below_drew1) | exact HB.out))) : p := h
theorem zq99 {p : Prop} (h : p := by exact (fun k_ hk => Kd.fresh' (Kd.R_lt (by (with_reducible repeat (first | apply Kd.R_alloc | apply Kd.R_drewN | apply Kd.R_drew)); exact HO_3.out)) k_ hk)) : p := h
theorem zq100 {p : Prop} (h : p := by exact (by (with_reducible repeat (first | apply Kd.R_alloc | apply Kd.R_drewN | apply Kd.R_drew)); exact Kd.R_mono HO253.out (fun _ hk => hk.2))) : p := h
theorem zq102 {p : Prop} (h : p := by exact (below_size (by repeat (first | (with_reducible first | exact HB.out | apply below_alloc | apply pw_below_drewN | apply below_drew1) | exact HB.out)))) : p := h
theorem zq103 {p : Prop} (h : p := by (with_reducible repeat (first | apply Kd.R_alloc | apply Kd.R_drewN | apply Kd.R_drew)); exact HO256.out) : p := h
theorem zq104 {p : Prop} (h : p := by exact (by (with_reducible repeat (first | apply Kd.R_alloc | apply Kd.R_drewN | apply Kd.R_drew)); exact HO256.out)) : p := h
theorem zq105 {p : Prop} (h : p := by repeat (first | exact (Kd.R_reads' HO263.out).2.2 | (with_reducible refine Kd.C_alloc ?_ _) | (with_reducible refine Kd.C_drewN ?_ _) | (with_reducible refine Kd.C_drew ?_))) : p := h
theorem zq106 {p : Prop} (h : p := by (with_reducible repeat (first | apply Kd.R_alloc | apply Kd.R_drewN | apply Kd.R_drew)); exact HO263.out) : p := h
theorem zq107 {p : Prop} (h : p := by first | exact Kd.R_nil _ _ _ _ _ | exact Kd.N_nil _ _ _ _ _ | exact Kd.V_nil _ _ _ _ _ | exact Kd.Q_nil _ _ _ _ _ | exact Kd.S_nil _ _ _ _ _) : p := h
theorem zq108 {p : Prop} (h : p := by have := HK1.out; first | omega | exact Nat.le_refl _) : p := h
theorem zq109 {p : Prop} (h : p := by (with_reducible repeat (first | refine blk_drewN ?_ _ | refine blk_drew ?_ | refine blk_alloc ?_ _)); exact BK266.out) : p := h
theorem zq110 {p : Prop} (h : p := by repeat (first | (with_reducible first | exact HB.out | apply below_alloc | apply pw_below_drewN | apply below_drew1 | refine below_set ?_ GE266.out) | exact HB.out)) : p := h
theorem zq111 {p : Prop} (h : p := by (with_reducible repeat (first | refine blk_drewN ?_ _ | refine blk_drew ?_ | refine blk_alloc ?_ _)); refine blk_put (cs := #[.int .i64 x8_2, .int .i64 0]) ?_ 1 _ rfl; (with_reducible repeat (first | refine blk_drewN ?_ _ | refine blk_drew ?_ | refine blk_alloc ?_ _)); refine blk_put (cs := #[.int .i64 0, .int .i64 0]) ?_ 0 _ rfl; (with_reducible repeat (first | refine blk_drewN ?_ _ | refine blk_drew ?_ | refine blk_alloc ?_ _)); exact BK266.out) : p := h
theorem zq112 {p : Prop} (h : p := by repeat (first | exact (Kd.C_below HR0.out (by repeat (first | (with_reducible first | exact HB.out | apply below_alloc | apply pw_below_drewN | apply below_drew1) | exact HB.out))) | (with_reducible refine Kd.C_alloc ?_ _) | (with_reducible refine Kd.C_drewN ?_ _) | (with_reducible refine Kd.C_drew ?_))) : p := h
theorem zq113 {p : Prop} (h : p := by exact (fun _ _ => trivial)) : p := h
theorem zq114 {p : Prop} (h : p := by exact (by (with_reducible repeat (first | apply Kd.R_alloc | apply Kd.R_drewN | apply Kd.R_drew)); exact HO285.out)) : p := h
theorem zq116 {p : Prop} (h : p := by have := LMc5.out; omega) : p := h
theorem zq117 {p : Prop} (h : p := by exact (by (with_reducible repeat (first | apply Kd.R_alloc | apply Kd.R_drewN | apply Kd.R_drew)); exact HO288.out)) : p := h
theorem zq118 {p : Prop} (h : p := by (with_reducible repeat (first | apply Kd.R_alloc | apply Kd.R_drewN | apply Kd.R_drew)); exact HO288.out) : p := h
theorem zq119 {p : Prop} (h : p := by rw [hw]; exact below_set (HB.out) GB16.out) : p := h
theorem zq120 {p : Prop} (h : p := by rw [← hq_]; exact (by (with_reducible repeat (first | apply Kd.R_alloc | apply Kd.R_drewN | apply Kd.R_drew)); exact HO288.out)) : p := h
theorem zq121 {p : Prop} (h : p := by rw [← hq_]; exact (by repeat (first | (with_reducible first | exact HB.out | apply below_alloc | apply pw_below_drewN | apply below_drew1) | exact HB.out))) : p := h
theorem zq122 {p : Prop} (h : p := by (with_reducible repeat (first | refine blk_drewN ?_ _ | refine blk_drew ?_ | refine blk_alloc ?_ _)); exact BK319.out) : p := h
theorem zq123 {p : Prop} (h : p := by repeat (first | (with_reducible first | exact HB.out | apply below_alloc | apply pw_below_drewN | apply below_drew1 | refine below_set ?_ GE319.out) | exact HB.out)) : p := h
theorem zq124 {p : Prop} (h : p := by (with_reducible repeat (first | refine blk_drewN ?_ _ | refine blk_drew ?_ | refine blk_alloc ?_ _)); exact BK329.out) : p := h
theorem zq125 {p : Prop} (h : p := by repeat (first | (with_reducible first | exact HB.out | apply below_alloc | apply pw_below_drewN | apply below_drew1 | refine below_set ?_ GE329.out) | exact HB.out)) : p := h
theorem zq126 {p : Prop} (h : p := by rw [hg]; exact (below_size (by repeat (first | (with_reducible first | exact HB.out | apply below_alloc | apply pw_below_drewN | apply below_drew1 | refine below_set ?_ GE329.out) | exact HB.out)))) : p := h
theorem zq127 {p : Prop} (h : p := by (with_reducible repeat (first | refine blk_drewN ?_ _ | refine blk_drew ?_ | refine blk_alloc ?_ _)); exact BK334.out) : p := h
theorem zq128 {p : Prop} (h : p := by repeat (first | (with_reducible first | exact HB.out | apply below_alloc | apply pw_below_drewN | apply below_drew1 | refine below_set ?_ GE329.out | refine below_set ?_ GE334.out) | exact HB.out)) : p := h
theorem zq129 {p : Prop} (h : p := by have := HJ3.out; have := HK2.out; first | omega | exact Nat.le_refl _) : p := h
theorem zq130 {p : Prop} (h : p := by (with_reducible repeat (first | refine blk_drewN ?_ _ | refine blk_drew ?_ | refine blk_alloc ?_ _)); refine blk_far ?_ NB329_334.out _; (with_reducible repeat (first | refine blk_drewN ?_ _ | refine blk_drew ?_ | refine blk_alloc ?_ _)); refine blk_far ?_ NB329_334.out _; (with_reducible repeat (first | refine blk_drewN ?_ _ | refine blk_drew ?_ | refine blk_alloc ?_ _)); refine blk_far ?_ NB329_334.out _; (with_reducible repeat (first | refine blk_drewN ?_ _ | refine blk_drew ?_ | refine blk_alloc ?_ _)); exact BK329.out) : p := h
theorem zq131 {p : Prop} (h : p := by (with_reducible repeat (first | refine blk_drewN ?_ _ | refine blk_drew ?_ | refine blk_alloc ?_ _)); refine blk_put (cs := #[.string ((rd_T29 l0 x9_2).f0), .string ((rd_T29 l0 x9_2).f1), .int .i64 0]) ?_ 2 _ rfl; (with_reducible repeat (first | refine blk_drewN ?_ _ | refine blk_drew ?_ | refine blk_alloc ?_ _)); refine blk_put (cs := #[.string ((rd_T29 l0 x9_2).f0), .string (⟨#[]⟩ : ByteArray), .int .i64 0]) ?_ 1 _ rfl; (with_reducible repeat (first | refine blk_drewN ?_ _ | refine blk_drew ?_ | refine blk_alloc ?_ _)); refine blk_put (cs := #[.string (⟨#[]⟩ : ByteArray), .string (⟨#[]⟩ : ByteArray), .int .i64 0]) ?_ 0 _ rfl; (with_reducible repeat (first | refine blk_drewN ?_ _ | refine blk_drew ?_ | refine blk_alloc ?_ _)); exact BK334.out) : p := h
theorem zq132 {p : Prop} (h : p := by have := HJ3.out; have := HK2.out; have := HJ24.out; first | omega | exact Nat.le_refl _) : p := h
theorem zq133 {p : Prop} (h : p := by have := HJ3.out; have := HK2.out; have := HJ19.out; first | omega | exact Nat.le_refl _) : p := h
theorem zq134 {p : Prop} (h : p := by have := HJ3.out; have := HK2.out; have := HJ19.out; have := HJ61.out; omega) : p := h
theorem zq135 {p : Prop} (h : p := by repeat (first | exact HR0.out | (with_reducible refine Kd.C_alloc ?_ _) | (with_reducible refine Kd.C_drewN ?_ _) | (with_reducible refine Kd.C_drew ?_))) : p := h
theorem zq136 {p : Prop} (h : p := by exact Kd.C_below HR0.out (by repeat (first | (with_reducible first | exact HB.out | apply below_alloc | apply pw_below_drewN | apply below_drew1 | refine below_set ?_ GE349.out) | exact HB.out))) : p := h
theorem zq137 {p : Prop} (h : p := by repeat (first | (with_reducible first | exact HB.out | apply below_alloc | apply pw_below_drewN | apply below_drew1 | refine below_set ?_ GE349.out) | exact HB.out)) : p := h
theorem zq138 {p : Prop} (h : p := by (with_reducible repeat (first | refine blk_drewN ?_ _ | refine blk_drew ?_ | refine blk_alloc ?_ _)); refine blk_put (cs := #[.int .i64 t344, .int .i64 t345, .int .i64 t346, .int .i64 0]) ?_ 3 _ rfl; (with_reducible repeat (first | refine blk_drewN ?_ _ | refine blk_drew ?_ | refine blk_alloc ?_ _)); refine blk_put (cs := #[.int .i64 t344, .int .i64 t345, .int .i64 0, .int .i64 0]) ?_ 2 _ rfl; (with_reducible repeat (first | refine blk_drewN ?_ _ | refine blk_drew ?_ | refine blk_alloc ?_ _)); refine blk_put (cs := #[.int .i64 t344, .int .i64 0, .int .i64 0, .int .i64 0]) ?_ 1 _ rfl; (with_reducible repeat (first | refine blk_drewN ?_ _ | refine blk_drew ?_ | refine blk_alloc ?_ _)); refine blk_put (cs := #[.int .i64 0, .int .i64 0, .int .i64 0, .int .i64 0]) ?_ 0 _ rfl; (with_reducible repeat (first | refine blk_drewN ?_ _ | refine blk_drew ?_ | refine blk_alloc ?_ _)); exact BK349.out) : p := h
theorem zq139 {p : Prop} (h : p := by rw [hg]; exact (below_size (by repeat (first | (with_reducible first | exact HB.out | apply below_alloc | apply pw_below_drewN | apply below_drew1 | refine below_set ?_ GE349.out) | exact HB.out)))) : p := h
theorem zq140 {p : Prop} (h : p := by rw [hg]; exact Nat.ne_of_lt (blk_lt (g := gb349) (o := .cells #[.int .i64 t344, .int .i64 t345, .int .i64 t346, .int .i64 t347] 44 (0, 0)) (by (with_reducible repeat (first | refine blk_drewN ?_ _ | refine blk_drew ?_ | refine blk_alloc ?_ _)); exact BK349.out))) : p := h
theorem zq141 {p : Prop} (h : p := by (with_reducible repeat (first | refine blk_drewN ?_ _ | refine blk_drew ?_ | refine blk_alloc ?_ _)); exact BK349.out) : p := h
theorem zq142 {p : Prop} (h : p := by rw [hg]; exact Nat.ne_of_gt (blk_lt (g := gb349) (o := .cells #[.int .i64 t344, .int .i64 t345, .int .i64 t346, .int .i64 t347] 44 (0, 0)) (by (with_reducible repeat (first | refine blk_drewN ?_ _ | refine blk_drew ?_ | refine blk_alloc ?_ _)); exact BK349.out))) : p := h
theorem zq143 {p : Prop} (h : p := by repeat (first | (with_reducible first | exact HB.out | apply below_alloc | apply pw_below_drewN | apply below_drew1 | refine below_set ?_ GE349.out | refine below_set ?_ GE355.out) | exact HB.out)) : p := h
theorem zq144 {p : Prop} (h : p := by (with_reducible repeat (first | apply Kd.R_alloc | apply Kd.R_drewN | apply Kd.R_drew)); exact HO359.out) : p := h
theorem zq145 {p : Prop} (h : p := by (with_reducible repeat (first | apply Kd.R_alloc | apply Kd.R_drewN | apply Kd.R_drew)); exact HO_27.out) : p := h
theorem zq146 {p : Prop} (h : p := by (with_reducible repeat (first | apply Kd.R_alloc | apply Kd.R_drewN | apply Kd.R_drew)); exact HO_119.out) : p := h
theorem zq147 {p : Prop} (h : p := by (with_reducible repeat (first | apply Kd.R_alloc | apply Kd.R_drewN | apply Kd.R_drew)); exact HO_127.out) : p := h
theorem zq148 {p : Prop} (h : p := by (with_reducible repeat (first | apply Kd.R_alloc | apply Kd.R_drewN | apply Kd.R_drew)); exact HO377.out) : p := h
theorem zq149 {p : Prop} (h : p := by (with_reducible repeat (first | apply Kd.R_alloc | apply Kd.R_drewN | apply Kd.R_drew)); exact HO_175.out) : p := h
theorem zq150 {p : Prop} (h : p := by repeat (first | (with_reducible first | exact HB.out | apply below_alloc | apply pw_below_drewN | apply below_drew1 | refine below_set ?_ GE389.out) | exact HB.out)) : p := h
theorem zq151 {p : Prop} (h : p := by rw [hg]; exact (below_size (by repeat (first | (with_reducible first | exact HB.out | apply below_alloc | apply pw_below_drewN | apply below_drew1 | refine below_set ?_ GE389.out) | exact HB.out)))) : p := h
theorem zq152 {p : Prop} (h : p := by (with_reducible repeat (first | refine blk_drewN ?_ _ | refine blk_drew ?_ | refine blk_alloc ?_ _)); exact BK389.out) : p := h
theorem zq153 {p : Prop} (h : p := by (with_reducible repeat (first | apply Kd.R_alloc | apply Kd.R_drewN | apply Kd.R_drew)); exact HO_204.out) : p := h
theorem zq154 {p : Prop} (h : p := by repeat (first | (with_reducible first | exact HB.out | apply below_alloc | apply pw_below_drewN | apply below_drew1 | refine below_set ?_ GE400.out) | exact HB.out)) : p := h
theorem zq155 {p : Prop} (h : p := by rw [hg]; exact (below_size (by repeat (first | (with_reducible first | exact HB.out | apply below_alloc | apply pw_below_drewN | apply below_drew1 | refine below_set ?_ GE400.out) | exact HB.out)))) : p := h
theorem zq156 {p : Prop} (h : p := by (with_reducible repeat (first | refine blk_drewN ?_ _ | refine blk_drew ?_ | refine blk_alloc ?_ _)); exact BK400.out) : p := h
theorem zq157 {p : Prop} (h : p := by (with_reducible repeat (first | refine blk_drewN ?_ _ | refine blk_drew ?_ | refine blk_alloc ?_ _)); exact BK406.out) : p := h
theorem zq158 {p : Prop} (h : p := by repeat (first | (with_reducible first | exact HB.out | apply below_alloc | apply pw_below_drewN | apply below_drew1 | refine below_set ?_ GE400.out | refine below_set ?_ GE406.out) | exact HB.out)) : p := h
theorem zq159 {p : Prop} (h : p := by (with_reducible repeat (first | apply Kd.R_alloc | apply Kd.R_drewN | apply Kd.R_drew)); exact Kd.R_mono HO_119.out (fun _ hk => hk.2)) : p := h
theorem zq160 {p : Prop} (h : p := by have := HK1.out; have := HK2.out; have := HK3.out; have := HK4.out; omega) : p := h
theorem zq161 {p : Prop} (h : p := by repeat (first | (with_reducible first | exact HB.out | apply below_alloc | apply pw_below_drewN | apply below_drew1 | refine below_set ?_ GE356.out) | exact HB.out)) : p := h
theorem zq162 {p : Prop} (h : p := by (with_reducible repeat (first | refine blk_drewN ?_ _ | refine blk_drew ?_ | refine blk_alloc ?_ _)); exact BK356.out) : p := h
theorem zq163 {p : Prop} (h : p := by (with_reducible repeat (first | apply Kd.R_alloc | apply Kd.R_drewN | apply Kd.R_drew)); exact HO_20.out) : p := h
theorem zq164 {p : Prop} (h : p := by (with_reducible repeat (first | apply Kd.R_alloc | apply Kd.R_drewN | apply Kd.R_drew)); exact HO_21.out) : p := h
theorem zq165 {p : Prop} (h : p := by rw [hg]; exact (below_size (by repeat (first | (with_reducible first | exact HB.out | apply below_alloc | apply pw_below_drewN | apply below_drew1 | refine below_set ?_ GE356.out) | exact HB.out)))) : p := h
theorem zq166 {p : Prop} (h : p := by repeat (first | (with_reducible first | exact HB.out | apply below_alloc | apply pw_below_drewN | apply below_drew1 | refine below_set ?_ GE356.out | refine below_set ?_ GE362.out) | exact HB.out)) : p := h
theorem zq167 {p : Prop} (h : p := by (with_reducible repeat (first | refine blk_drewN ?_ _ | refine blk_drew ?_ | refine blk_alloc ?_ _)); exact BK362.out) : p := h
theorem zq168 {p : Prop} (h : p := by repeat (first | exact (Kd.R_reads' HO_20.out).2.2 | (with_reducible refine Kd.C_alloc ?_ _) | (with_reducible refine Kd.C_drewN ?_ _) | (with_reducible refine Kd.C_drew ?_))) : p := h
end Go.Proofs.YtlmfoblgheepoaaGreatDoor.Z
section
open Go.Proofs.YtlmfoblgheepoaaGreatDoor.Z
namespace Go.Proofs.YtlmfoblgheepoaaGreatDoor.Pl
open Go.RowKit Go.Proofs.YtlmfoblgheepoaaGreatDoorW.PrintWords Go.Proofs.YtlmfoblgheepoaaGreatDoorW.PrintLast Go.Proofs.YtlmfoblgheepoaaGreatDoorW.PrintMore
attribute [local go_sem] max2_int min2_int max_two min_two max_three min_three max_four min_four
set_option linter.unusedVariables false
set_option linter.unusedSimpArgs false
def errW : Option Int → Value
 | none => .nilIface
 | some c => .iface 0 (.int .i64 c)
theorem errW_none : errW none = .nilIface := rfl
theorem errW_some (c : Int) : errW (some c) = .iface 0 (.int .i64 c) := rfl
theorem info3 : (Tryz.prog.info? 3).map (fun i => (i.zero, i.size, i.bytes)) = some (some (.int .i64 0), 1, 8) := by kernel_rfl
theorem info9 : (Tryz.prog.info? 9).map (fun i => (i.zero, i.size, i.bytes)) = some (some (.string ⟨#[]⟩), 1, 16) := by kernel_rfl
theorem info29 : (Tryz.prog.info? 29).map (fun i => (i.zero, i.size, i.bytes)) = some (some (.agg #[(.string ⟨#[]⟩), (.string ⟨#[]⟩), (.int .i64 0)]), 3, 40) := by kernel_rfl
structure S29 where
 f0 : ByteArray
 f1 : ByteArray
 f2 : Int
def z29 : S29 := ⟨(⟨#[]⟩ : ByteArray), (⟨#[]⟩ : ByteArray), (0 : Int)⟩
def k29 : Kd S29 := Kd.iso (Kd.pair Kd.string (Kd.pair Kd.string (Kd.int .i64))) (fun x : S29 => (x.f0, x.f1, x.f2))
theorem k29_open {w : World} {x : S29} {cs : List Value} (h : k29.K w x cs) : cs = [.string x.f0, .string x.f1, .int .i64 x.f2] := by
 obtain ⟨_, _, rfl, rfl, ⟨_, _, rfl, rfl, rfl⟩⟩ := h
 exact rfl
theorem k29_openM {w : World} {base : Nat} {ok : Nat → Prop} {x : S29} {cs : List Value} (h : k29.M w base ok x cs) : cs = [.string x.f0, .string x.f1, .int .i64 x.f2] := by
 obtain ⟨_, _, rfl, rfl, ⟨_, _, rfl, rfl, rfl⟩⟩ := h
 exact rfl
theorem k29_mk (w : World) (x : S29)  : k29.K w x [.string x.f0, .string x.f1, .int .i64 x.f2] := ⟨[.string x.f0], [.string x.f1, .int .i64 x.f2], rfl, rfl, ⟨[.string x.f1], [.int .i64 x.f2], rfl, rfl, rfl⟩⟩
theorem k29_mkM (w : World) (base : Nat) (ok : Nat → Prop) (x : S29)  : k29.M w base ok x [.string x.f0, .string x.f1, .int .i64 x.f2] := ⟨[.string x.f0], [.string x.f1, .int .i64 x.f2], rfl, rfl, ⟨[.string x.f1], [.int .i64 x.f2], rfl, rfl, rfl⟩⟩
def rd_T29 (xs : List S29) (i : Int) : S29 := xs.getD i.toNat z29
theorem at_T29 {w : World} {A : Option Addr} {n : Nat} {xs : List S29} (h : Kd.C k29 w A n xs) (i : Int) (h0 : 0 ≤ i) (h1 : i < n) : ∃ ad , A = some ad ∧ w.cell? (ad.add (i.toNat * 3)) = some (.string (rd_T29 xs i).f0) ∧ w.cell? ⟨(ad.add (i.toNat * 3)).block, (ad.add (i.toNat * 3)).off + 1, none⟩ = some (.string (rd_T29 xs i).f1) ∧ w.cell? ⟨(ad.add (i.toNat * 3)).block, (ad.add (i.toNat * 3)).off + 2, none⟩ = some (.int .i64 (rd_T29 xs i).f2) := by
 obtain ⟨ad, c, e, _, hK, hc0⟩ := Kd.C_get h z29 i h0 h1
 have hc : ∀ j u, c[j]? = some u → w.cell? (ad.add (i.toNat * 3 + j)) = some u := hc0
 obtain rfl := k29_open hK
 exact ⟨ad, e, hc 0 _ rfl, by rw [← add_field _ _ 1 (by omega)]; exact hc 1 _ rfl, by rw [← add_field _ _ 2 (by omega)]; exact hc 2 _ rfl⟩
def rd_L3 (xs : List (List S29)) (i : Int) : (List S29) := xs.getD i.toNat ([] : List S29)
theorem at_L3 {w : World} {A : Option Addr} {n : Nat} {xs : List (List S29)} (h : Kd.C (Kd.slice 29 k29) w A n xs) (i : Int) (h0 : 0 ≤ i) (h1 : i < n) : ∃ ad A0 c0, A = some ad ∧ w.cell? (ad.add i.toNat) = some (.slice A0 (rd_L3 xs i).length c0) ∧ (rd_L3 xs i).length ≤ c0 ∧ k29.C w A0 (rd_L3 xs i).length (rd_L3 xs i) := by
 obtain ⟨ad, c, e, _, hK, hc0⟩ := Kd.C_get h ([] : List S29) i h0 h1
 have hc : ∀ j u, c[j]? = some u → w.cell? (ad.add (i.toNat * 1 + j)) = some u := hc0
 obtain ⟨A0, c0, rfl, l0, g0⟩ := hK
 exact ⟨ad, A0, c0, e, by have hq := hc 0 _ rfl; rwa [Nat.mul_one, Nat.add_zero] at hq, l0, g0⟩
structure S23 where
 f0 : Int
 f1 : Int
 f2 : Int
def z23 : S23 := ⟨(0 : Int), (0 : Int), (0 : Int)⟩
def k23 : Kd S23 := Kd.iso (Kd.pair (Kd.int .i64) (Kd.pair (Kd.int .i64) (Kd.int .i64))) (fun x : S23 => (x.f0, x.f1, x.f2))
theorem k23_open {w : World} {x : S23} {cs : List Value} (h : k23.K w x cs) : cs = [.int .i64 x.f0, .int .i64 x.f1, .int .i64 x.f2] := by
 obtain ⟨_, _, rfl, rfl, ⟨_, _, rfl, rfl, rfl⟩⟩ := h
 exact rfl
theorem k23_mk (w : World) (x : S23)  : k23.K w x [.int .i64 x.f0, .int .i64 x.f1, .int .i64 x.f2] := ⟨[.int .i64 x.f0], [.int .i64 x.f1, .int .i64 x.f2], rfl, rfl, ⟨[.int .i64 x.f1], [.int .i64 x.f2], rfl, rfl, rfl⟩⟩
def rd_T23 (xs : List S23) (i : Int) : S23 := xs.getD i.toNat z23
theorem at_T23 {w : World} {A : Option Addr} {n : Nat} {xs : List S23} (h : Kd.C k23 w A n xs) (i : Int) (h0 : 0 ≤ i) (h1 : i < n) : ∃ ad , A = some ad ∧ w.cell? (ad.add (i.toNat * 3)) = some (.int .i64 (rd_T23 xs i).f0) ∧ w.cell? ⟨(ad.add (i.toNat * 3)).block, (ad.add (i.toNat * 3)).off + 1, none⟩ = some (.int .i64 (rd_T23 xs i).f1) ∧ w.cell? ⟨(ad.add (i.toNat * 3)).block, (ad.add (i.toNat * 3)).off + 2, none⟩ = some (.int .i64 (rd_T23 xs i).f2) := by
 obtain ⟨ad, c, e, _, hK, hc0⟩ := Kd.C_get h z23 i h0 h1
 have hc : ∀ j u, c[j]? = some u → w.cell? (ad.add (i.toNat * 3 + j)) = some u := hc0
 obtain rfl := k23_open hK
 exact ⟨ad, e, hc 0 _ rfl, by rw [← add_field _ _ 1 (by omega)]; exact hc 1 _ rfl, by rw [← add_field _ _ 2 (by omega)]; exact hc 2 _ rfl⟩
def Glb (w : World) : Prop := Lib.TabIs Tryz.prog w "internal/strconv.uint64pow10" .u64 Lib.pow10Tab
theorem Glb.below {w w' : World} (h : Glb w) (hb : Below w.heap.size w w') : Glb w' := by
 unfold Glb Lib.TabIs World.var? at h ⊢
 cases hg : Tryz.prog.globalNamed "internal/strconv.uint64pow10" with
 | none => rw [hg] at h; simp at h
 | some g =>
  rw [hg] at h
  simp only [Option.bind_some] at h ⊢
  have hlt : g < w.heap.size := by
   rcases Nat.lt_or_ge g w.heap.size with h' | h'
   ·exact h'
   ·rw [Array.getElem?_eq_none h'] at h; cases h
  rw [hb.block g hlt]
  exact h
theorem below_growN (w : World) (k : Nat) (os : Array Obj) : Below w.heap.size w (Go.Sort.grow (w.drewN k) os) :=
 ⟨rfl, rfl, rfl, by simp [Go.Sort.grow], fun i hi => by simp [Go.Sort.grow, Array.getElem?_append, hi]⟩
theorem below_bytesW (w : World) (e : TypeId) (s : ByteArray) : Below w.heap.size w (Lib.bytesWorld w e s) := bytes_below (Below.refl _ _) (Nat.le_refl _) e s
theorem wrap64_of {n : Int} (h0 : -9223372036854775808 ≤ n) (h1 : n ≤ 9223372036854775807) : wrap64 n = n := by
 unfold wrap64
 omega
def codeAt : List Nat → Code → Code
 | [], c => c
 | 0 :: p, .seq a _ => codeAt p a
 | _ :: p, .seq _ b => codeAt p b
 | _ :: p, .block _ c => codeAt p c
 | _ :: p, .loop c => codeAt p c
 | 0 :: p, .cond _ a _ => codeAt p a
 | _ :: p, .cond _ _ b => codeAt p b
 | _, c => c
def pieceQ (F : Act → Prop) (w0 : World) : Exit → Act → World → Prop := fun e a w => match e with
 | .normal => F a ∧ Below w0.heap.size w0 w
 | _ => False
theorem pieceQ_n {F : Act → Prop} {w0 : World} {a : Act} {w : World} (h : F a) (hb : Below w0.heap.size w0 w) : pieceQ F w0 .normal a w := ⟨h, hb⟩
theorem seq_hold {P : Program} {x y : Code} {Q : Exit → Act → World → Prop} {a : Act} {w : World} (h : ∀ K : Act → World → Prop, Aside0 (∀ a w, y.wp P Q a w → K a w) → x.wp P (Exit.then K Q) a w) : (Code.seq x y).wp P Q a w :=
 wp_seq (h _ ⟨fun _ _ h => h⟩)
theorem pieceQ_open {F : Act → Prop} {w0 : World} {e : Exit} {a : Act} {w : World} (h : pieceQ F w0 e a w) : e = .normal ∧ F a ∧ Below w0.heap.size w0 w := by
 cases e <;> first | exact ⟨rfl, h⟩ | exact h.elim
end Go.Proofs.YtlmfoblgheepoaaGreatDoor.Pl
end
section
open Go.Proofs.YtlmfoblgheepoaaGreatDoor.Z
namespace Go.Proofs.YtlmfoblgheepoaaGreatDoor.Pl
open Go.RowKit Go.Proofs.YtlmfoblgheepoaaGreatDoorW.PrintWords Go.Proofs.YtlmfoblgheepoaaGreatDoorW.PrintLast Go.Proofs.YtlmfoblgheepoaaGreatDoorW.PrintMore
attribute [local go_sem] max2_int min2_int max_two min_two max_three min_three max_four min_four
set_option linter.unusedVariables false
set_option linter.unusedSimpArgs false
theorem eqA40 (d : Nat) (w : World) (x0 y0 : Int) (x1 y1 : Int) :
 (Op.equalIn (d + 2) 40 (.agg #[.int .i64 x0, .int .i64 x1]) (.agg #[.int .i64 y0, .int .i64 y1])).run Tryz.prog w = .ok (x0 == y0 && (x1 == y1)) w := by
 refine eqA_of Tryz.underlying40 (by kernel_rfl) ?_
 refine eqf_cons (by rfl) (zq0) (zq0) (by go_simp) ?_
 exact eqf_last (by rfl) (zq0) (zq0) (by go_simp)
end Go.Proofs.YtlmfoblgheepoaaGreatDoor.Pl
end
section
open Go.Proofs.YtlmfoblgheepoaaGreatDoor.Z
namespace Go.Proofs.YtlmfoblgheepoaaGreatDoor.Pl
open Go.RowKit Go.Proofs.YtlmfoblgheepoaaGreatDoorW.PrintWords Go.Proofs.YtlmfoblgheepoaaGreatDoorW.PrintLast Go.Proofs.YtlmfoblgheepoaaGreatDoorW.PrintMore
attribute [local go_sem] max2_int min2_int max_two min_two max_three min_three max_four min_four
set_option linter.unusedVariables false
set_option linter.unusedSimpArgs false
theorem eqA44 (d : Nat) (w : World) (x0 y0 : Int) (x1 y1 : Int) (x2 y2 : Int) (x3 y3 : Int) :
 (Op.equalIn (d + 2) 44 (.agg #[.int .i64 x0, .int .i64 x1, .int .i64 x2, .int .i64 x3]) (.agg #[.int .i64 y0, .int .i64 y1, .int .i64 y2, .int .i64 y3])).run Tryz.prog w = .ok (x0 == y0 && (x1 == y1 && (x2 == y2 && (x3 == y3)))) w := by
 refine eqA_of Tryz.underlying44 (by kernel_rfl) ?_
 refine eqf_cons (by rfl) (zq0) (zq0) (by go_simp) ?_
 refine eqf_cons (by rfl) (zq0) (zq0) (by go_simp) ?_
 refine eqf_cons (by rfl) (zq0) (zq0) (by go_simp) ?_
 exact eqf_last (by rfl) (zq0) (zq0) (by go_simp)
end Go.Proofs.YtlmfoblgheepoaaGreatDoor.Pl
end
section
open Go.Proofs.YtlmfoblgheepoaaGreatDoor.Z
namespace Go.Proofs.YtlmfoblgheepoaaGreatDoor.Pl
open Go.RowKit Go.Proofs.YtlmfoblgheepoaaGreatDoorW.PrintWords Go.Proofs.YtlmfoblgheepoaaGreatDoorW.PrintLast Go.Proofs.YtlmfoblgheepoaaGreatDoorW.PrintMore
attribute [local go_sem] max2_int min2_int max_two min_two max_three min_three max_four min_four
set_option linter.unusedVariables false
set_option linter.unusedSimpArgs false
def plan_isWithin.f (a0 : Int) (a1 : Int) (a2 : Int) : Option (Bool) := if a1 ≤ a0 then (some (decide (a0 ≤ a2))) else (some false)
set_option maxHeartbeats 8000000 in
set_option maxRecDepth 100000 in
theorem plan_isWithin.calls (a0 : Int) (a1 : Int) (a2 : Int) (r : Bool) (w : World) (h : plan_isWithin.f a0 a1 a2 = some r) :
 Calls Tryz.prog 36 #[.int .i64 a0, .int .i64 a1, .int .i64 a2] w fun e w' => e = .returned (.bool r) ∧ Drawn0 w w' := by
 have H : (if a1 ≤ a0 then (some (decide (a0 ≤ a2))) else (some false)) = some r := h
 clear h
 by_cases c4 : a1 ≤ a0
 ·rw [if_pos c4] at H
  have c4b0 : decide (a1 ≤ a0) = true := decide_eq_true c4
  clear c4
  obtain rfl := Option.some.inj H
  go_enter Tryz.func36, Tryz.ntmps36
  go_wp2
  go_ret
  exact ⟨zq1, zq2⟩
 rw [if_neg c4] at H
 have c4b0 : decide (a1 ≤ a0) = false := decide_eq_false c4
 clear c4
 obtain rfl := Option.some.inj H
 go_enter Tryz.func36, Tryz.ntmps36
 go_wp2
 go_ret
 exact ⟨zq1, zq2⟩
def plan_room.f (a0_0 : ByteArray) (a0_1 : ByteArray) (a0_2 : Int) : Option (Int) := some (wrap64 (a0_2 - (a0_0.size : Int)))
set_option maxHeartbeats 8000000 in
set_option maxRecDepth 100000 in
theorem plan_room.calls (a0_0 : ByteArray) (a0_1 : ByteArray) (a0_2 : Int) (r : Int) (w : World) (h : plan_room.f a0_0 a0_1 a0_2 = some r) :
 Calls Tryz.prog 39 #[.agg #[.string a0_0, .string a0_1, .int .i64 a0_2]] w fun e w' => e = .returned (.int .i64 r) ∧ Below w.heap.size w w' := by
 have hu29 := Tryz.underlying29
 have HB := Aside0.mk (Below.refl w.heap.size w)
 have H : (some (wrap64 (a0_2 - (a0_0.size : Int)))) = some r := h
 clear h
 obtain rfl := Option.some.inj H
 go_enter Tryz.func39, Tryz.ntmps39
 go_wp2_with (first | ((with_reducible refine gate_dst (N := 1) rfl ?_); refine box_event ?hg (N := 1) ?hd (cs := #[.string a0_0, .string a0_1, .int .i64 a0_2]) (t := 29) ?hr ?_; (case hd => rfl); (case hg => rfl); (case hr => exact zq3); intro gb101 hg w2 hbox hb; have BK101 := Aside0.mk (hbox); have GW101 := Aside0.mk ((zq4 : w.heap.size ≤ gb101)); have GE101 := Aside0.mk ((zq4 : w.heap.size ≤ gb101)); replace HB := Aside0.mk (below_step (zq5) hb); clear hb hbox hg; have hcz3_0 : w2.cell? ⟨gb101, 0, none⟩ = some (.string a0_0) := (blk_cell BK101.out 0).trans rfl; have hcz3_1 : w2.cell? ⟨gb101, 1, none⟩ = some (.string a0_1) := (blk_cell BK101.out 1).trans rfl; have hcz3_2 : w2.cell? ⟨gb101, 2, none⟩ = some (.int .i64 a0_2) := (blk_cell BK101.out 2).trans rfl; have hfz3_0 := blk_frozen BK101.out 0; have hfz3_1 := blk_frozen BK101.out 1; have hfz3_2 := blk_frozen BK101.out 2))
 go_ret
 exact ⟨zq6, by repeat (first | (with_reducible first | exact HB.out | apply below_alloc | apply pw_below_drewN | apply below_drew1 | refine below_set ?_ GE101.out) | exact HB.out)⟩
end Go.Proofs.YtlmfoblgheepoaaGreatDoor.Pl
end
section
open Go.Proofs.YtlmfoblgheepoaaGreatDoor.Z
namespace Go.Proofs.YtlmfoblgheepoaaGreatDoor.Pl
open Go.RowKit Go.Proofs.YtlmfoblgheepoaaGreatDoorW.PrintWords Go.Proofs.YtlmfoblgheepoaaGreatDoorW.PrintLast Go.Proofs.YtlmfoblgheepoaaGreatDoorW.PrintMore
attribute [local go_sem] max2_int min2_int max_two min_two max_three min_three max_four min_four
set_option linter.unusedVariables false
set_option linter.unusedSimpArgs false
def strings_Trim.f (s cut : ByteArray) : Option ByteArray :=
 if s.size ≤ 9223372036854775807 ∧ cut.size < 4294967281 ∧ cut.data.toList.all (fun b => decide (b.toNat < 128)) = true then some ⟨(Lib.trimS s.data.toList cut.data.toList).toArray⟩ else none
theorem strings_Trim.calls (s cut : ByteArray) (r : ByteArray) (w : World) (h : strings_Trim.f s cut = some r) :
 Calls Tryz.prog 40 #[.string s, .string cut] w fun e w' => e = .returned (.string r) ∧ Below w.heap.size w w' := by
 unfold strings_Trim.f at h
 split at h
 ·rename_i hc
  obtain ⟨h1, h2, h3⟩ := hc
  obtain rfl := Option.some.inj h
  refine Tryz.strings_Trim_laid s cut w h1 h2 (fun j b hb => ?_)
  have := List.all_eq_true.1 h3 b (List.mem_of_getElem? hb)
  exact of_decide_eq_true this
 ·cases h
end Go.Proofs.YtlmfoblgheepoaaGreatDoor.Pl
end
section
open Go.Proofs.YtlmfoblgheepoaaGreatDoor.Z
namespace Go.Proofs.YtlmfoblgheepoaaGreatDoor.Pl
open Go.RowKit Go.Proofs.YtlmfoblgheepoaaGreatDoorW.PrintWords Go.Proofs.YtlmfoblgheepoaaGreatDoorW.PrintLast Go.Proofs.YtlmfoblgheepoaaGreatDoorW.PrintMore
attribute [local go_sem] max2_int min2_int max_two min_two max_three min_three max_four min_four
set_option linter.unusedVariables false
set_option linter.unusedSimpArgs false
def plan_isDigits.f (a0 : ByteArray) : Option (Bool) := (strings_Trim.f a0 (⟨#[48, 49, 50, 51, 52, 53, 54, 55, 56, 57]⟩ : ByteArray)).bind fun t102 => (some (t102.toList == ([] : List UInt8)))
set_option maxHeartbeats 8000000 in
set_option maxRecDepth 100000 in
theorem plan_isDigits.calls (a0 : ByteArray) (r : Bool) (w : World) (h : plan_isDigits.f a0 = some r) :
 Calls Tryz.prog 49 #[.string a0] w fun e w' => e = .returned (.bool r) ∧ Below w.heap.size w w' := by
 have HB := Aside0.mk (Below.refl w.heap.size w)
 have H : ((strings_Trim.f a0 (⟨#[48, 49, 50, 51, 52, 53, 54, 55, 56, 57]⟩ : ByteArray)).bind fun t102 => (some (t102.toList == ([] : List UInt8)))) = some r := h
 clear h
 replace H := Option.bind_eq_some_iff.mp H
 obtain ⟨t102, A20, H⟩ := H
 try dsimp only at H
 have A2 := Aside0.mk A20
 clear A20
 obtain rfl := Option.some.inj H
 go_enter Tryz.func49, Tryz.ntmps49
 go_wp2_with (first | ((with_reducible refine gate_callee (f := 40) rfl ?_); refine goesL_ (some 4) rfl rfl Tryz.func40 (by kernel_rfl) rfl #[.string a0, .string (⟨#[48, 49, 50, 51, 52, 53, 54, 55, 56, 57]⟩ : ByteArray)] rfl (zq7) ?_; (with_reducible refine (strings_Trim.calls a0 (⟨#[48, 49, 50, 51, 52, 53, 54, 55, 56, 57]⟩ : ByteArray) t102 _ A2.out).mono ?_); rintro e w3 ⟨rfl, hb⟩; refine ⟨_, rfl, ?_⟩; replace HB := Aside0.mk (below_step (zq5) hb); (try clear hb); (try clear hb2); (try clear hk); (try clear hi)))
 go_ret
 exact ⟨zq6, zq5⟩
end Go.Proofs.YtlmfoblgheepoaaGreatDoor.Pl
end
section
open Go.Proofs.YtlmfoblgheepoaaGreatDoor.Z
namespace Go.Proofs.YtlmfoblgheepoaaGreatDoor.Pl
open Go.RowKit Go.Proofs.YtlmfoblgheepoaaGreatDoorW.PrintWords Go.Proofs.YtlmfoblgheepoaaGreatDoorW.PrintLast Go.Proofs.YtlmfoblgheepoaaGreatDoorW.PrintMore
attribute [local go_sem] max2_int min2_int max_two min_two max_three min_three max_four min_four
set_option linter.unusedVariables false
set_option linter.unusedSimpArgs false
def strings_HasPrefix.f (s p : ByteArray) : Option Bool := some (Lib.hasPrefix s.data.toList p.data.toList)
theorem strings_HasPrefix.calls (s p : ByteArray) (r : Bool) (w : World) (h : strings_HasPrefix.f s p = some r) :
 Calls Tryz.prog 38 #[.string s, .string p] w fun e w' => e = .returned (.bool r) ∧ Below w.heap.size w w' := by
 obtain rfl := Option.some.inj h
 exact (Tryz.strings_HasPrefix s p w).mono fun e w' ⟨he, hw⟩ => ⟨he, hw ▸ Below.refl _ _⟩
end Go.Proofs.YtlmfoblgheepoaaGreatDoor.Pl
end
section
open Go.Proofs.YtlmfoblgheepoaaGreatDoor.Z
namespace Go.Proofs.YtlmfoblgheepoaaGreatDoor.Pl
open Go.RowKit Go.Proofs.YtlmfoblgheepoaaGreatDoorW.PrintWords Go.Proofs.YtlmfoblgheepoaaGreatDoorW.PrintLast Go.Proofs.YtlmfoblgheepoaaGreatDoorW.PrintMore
attribute [local go_sem] max2_int min2_int max_two min_two max_three min_three max_four min_four
set_option linter.unusedVariables false
set_option linter.unusedSimpArgs false
def plan_areApart.f (a0 : ByteArray) (a1 : ByteArray) : Option (Bool) := (strings_HasPrefix.f a0 a1).bind fun t103 => (if t103 = true then (some false) else ((strings_HasPrefix.f a1 a0).bind fun t104 => (some (!t104))))
set_option maxHeartbeats 8000000 in
set_option maxRecDepth 100000 in
theorem plan_areApart.calls (a0 : ByteArray) (a1 : ByteArray) (r : Bool) (w : World) (h : plan_areApart.f a0 a1 = some r) :
 Calls Tryz.prog 56 #[.string a0, .string a1] w fun e w' => e = .returned (.bool r) ∧ Below w.heap.size w w' := by
 have HB := Aside0.mk (Below.refl w.heap.size w)
 have H : ((strings_HasPrefix.f a0 a1).bind fun t103 => (if t103 = true then (some false) else ((strings_HasPrefix.f a1 a0).bind fun t104 => (some (!t104))))) = some r := h
 clear h
 replace H := Option.bind_eq_some_iff.mp H
 obtain ⟨t103, A30, H⟩ := H
 try dsimp only at H
 have A3 := Aside0.mk A30
 clear A30
 by_cases c4 : t103 = true
 ·subst c4
  rw [if_pos rfl] at H
  obtain rfl := Option.some.inj H
  go_enter Tryz.func56, Tryz.ntmps56
  go_wp2_with (first | ((with_reducible refine gate_callee (f := 38) rfl ?_); refine goesL_ (some 7) rfl rfl Tryz.func38 (by kernel_rfl) rfl #[.string a0, .string a1] rfl (zq7) ?_; (with_reducible refine (strings_HasPrefix.calls a0 a1 true _ A3.out).mono ?_); rintro e w5 ⟨rfl, hb⟩; refine ⟨_, rfl, ?_⟩; replace HB := Aside0.mk (below_step (zq5) hb); (try clear hb); (try clear hb2); (try clear hk); (try clear hi)))
  go_ret
  exact ⟨zq6, zq5⟩
 replace c4 := Bool.eq_false_iff.mpr c4
 subst c4
 rw [if_neg (show ¬ (false = true) by decide)] at H
 replace H := Option.bind_eq_some_iff.mp H
 obtain ⟨t104, A60, H⟩ := H
 try dsimp only at H
 have A6 := Aside0.mk A60
 clear A60
 obtain rfl := Option.some.inj H
 go_enter Tryz.func56, Tryz.ntmps56
 go_wp2_with (first | ((with_reducible refine gate_callee (f := 38) rfl ?_); refine goesL_ (some 7) rfl rfl Tryz.func38 (by kernel_rfl) rfl #[.string a0, .string a1] rfl (zq7) ?_; (with_reducible refine (strings_HasPrefix.calls a0 a1 false _ A3.out).mono ?_); rintro e w7 ⟨rfl, hb⟩; refine ⟨_, rfl, ?_⟩; replace HB := Aside0.mk (below_step (zq5) hb); (try clear hb); (try clear hb2); (try clear hk); (try clear hi)) | (go_at_call 38; (with_reducible refine (strings_HasPrefix.calls a1 a0 t104 _ A6.out).mono ?_); rintro e w8 ⟨rfl, hb⟩; replace HB := Aside0.mk (below_step (zq5) hb); (try clear hb); (try clear hb2); (try clear hk); (try clear hi)))
 go_ret
 exact ⟨zq6, zq5⟩
def plan_isCode.j0 : Nat → Bool → ByteArray → ByteArray → Int → Option (Bool)
 | 0, _, _, _, _ => none
 | k + 1, x33, x106000, x106001, x106002 => if x33 = true then (some false) else ((plan_room.f x106000 x106001 x106002).bind fun t110 => (if t110 ≤ (wrap64 (8 - (x106001.size : Int))) then ((plan_areApart.f x106000 x106001).bind fun t111 => (some t111)) else (some false)))
def plan_isCode.f (k : Nat) (a0_0 : ByteArray) (a0_1 : ByteArray) (a0_2 : Int) : Option (Bool) := if a0_0.size + a0_1.size ≤ 9223372036854775807 then ((plan_isDigits.f (a0_0 ++ a0_1)).bind fun t106 => (if t106 = true then ((plan_isWithin.f (a0_0.size : Int) 1 4).bind fun t107 => (if t107 = true then ((plan_isWithin.f (a0_1.size : Int) 1 5).bind fun t108 => (if t108 = true then ((plan_isWithin.f a0_2 (wrap64 ((a0_0.size : Int) + 1)) 7).bind fun t109 => (plan_isCode.j0 k (!t109) a0_0 a0_1 a0_2)) else (plan_isCode.j0 k true a0_0 a0_1 a0_2))) else (plan_isCode.j0 k true a0_0 a0_1 a0_2))) else (plan_isCode.j0 k true a0_0 a0_1 a0_2))) else (none)
theorem plan_isCode.mono_l : ∀ k, (∀ y0 y1 y2 y3, LeO (plan_isCode.j0 k y0 y1 y2 y3) (plan_isCode.j0 (k + 1) y0 y1 y2 y3))
 | 0 => fun _ _ _ _ r h => by simp [plan_isCode.j0] at h
 | k + 1 => by
  have ih0 := plan_isCode.mono_l k
  ·intro y0 y1 y2 y3
   unfold plan_isCode.j0
   repeat' first
   | (with_reducible exact ih0 _ _ _ _)
   | (with_reducible exact LeO.refl _)
   | (with_reducible exact LeO.none _)
   | (with_reducible refine LeO.ite ?_ ?_)
   | (with_reducible refine LeO.bind ?_ (fun _ => ?_))
   | exact ih0 _ _ _ _
   | exact LeO.none _
   | refine LeO.ite ?_ ?_
   | refine LeO.bind ?_ (fun _ => ?_)
theorem plan_isCode.mono : ∀ a0 a1 a2 k, LeO (plan_isCode.f k a0 a1 a2) (plan_isCode.f (k + 1) a0 a1 a2) := by
 intro a0 a1 a2 k
 have ih0 := plan_isCode.mono_l k
 unfold plan_isCode.f
 repeat' first
  | (with_reducible exact ih0 _ _ _ _)
  | (with_reducible exact LeO.refl _)
  | (with_reducible exact LeO.none _)
  | (with_reducible refine LeO.ite ?_ ?_)
  | (with_reducible refine LeO.bind ?_ (fun _ => ?_))
  | exact ih0 _ _ _ _
  | exact LeO.none _
  | refine LeO.ite ?_ ?_
  | refine LeO.bind ?_ (fun _ => ?_)
def plan_isCode.T3 : Bool × List (List Nat × List Nat) := (true, [([], []), ([0], [0]), ([], []), ([2], [2]), ([3], [3]), ([4], [4]), ([1, 5], [1, 5]), ([6, 1], [6]), ([7], [7]), ([8, 7], [7, 8]), ([7], [7]), ([10, 7], [7, 10]), ([9, 11, 7, 7], [7, 9, 11]), ([7, 12], [7, 12]), ([13, 12, 0, 1, 2, 3, 4, 5, 6, 7, 8, 9, 10, 11, 12, 13], [13])])
def plan_isCode.B3 : List Nat := [0, 1, 0, 4, 12, 28, 63, 127, 255, 511, 255, 1279, 4095, 8191, 16383]
theorem plan_isCode.tab3 : rtab .any (opsOf Tryz.f54 3) = plan_isCode.T3 := by kernel_rfl
theorem plan_isCode.bits3 : waitsOk plan_isCode.T3.2 plan_isCode.B3 = true := by kernel_rfl
set_option maxHeartbeats 8000000 in
set_option maxRecDepth 100000 in
theorem plan_isCode.calls (k : Nat) (a0_0 : ByteArray) (a0_1 : ByteArray) (a0_2 : Int) (r : Bool) (w : World) (h : plan_isCode.f k a0_0 a0_1 a0_2 = some r) :
 Calls Tryz.prog 54 #[.agg #[.string a0_0, .string a0_1, .int .i64 a0_2]] w fun e w' => e = .returned (.bool r) ∧ Below w.heap.size w w' := by
 have hu29 := Tryz.underlying29
 have HB := Aside0.mk (Below.refl w.heap.size w)
 have H : (if a0_0.size + a0_1.size ≤ 9223372036854775807 then ((plan_isDigits.f (a0_0 ++ a0_1)).bind fun t106 => (if t106 = true then ((plan_isWithin.f (a0_0.size : Int) 1 4).bind fun t107 => (if t107 = true then ((plan_isWithin.f (a0_1.size : Int) 1 5).bind fun t108 => (if t108 = true then ((plan_isWithin.f a0_2 (wrap64 ((a0_0.size : Int) + 1)) 7).bind fun t109 => (plan_isCode.j0 k (!t109) a0_0 a0_1 a0_2)) else (plan_isCode.j0 k true a0_0 a0_1 a0_2))) else (plan_isCode.j0 k true a0_0 a0_1 a0_2))) else (plan_isCode.j0 k true a0_0 a0_1 a0_2))) else (none)) = some r := h
 clear h
 have HC2 := Aside0.mk H
 clear H
 go_enter Tryz.func54, Tryz.ntmps54
 go_upto_region 1 with (first | ((with_reducible refine gate_dst (N := 1) rfl ?_); (try (refine gate_guard (by rfl) ?_; dsimp only)); refine box_event ?hg (N := 1) ?hd (cs := #[.string a0_0, .string a0_1, .int .i64 a0_2]) (t := 29) ?hr ?_; (case hd => rfl); (case hg => rfl); (case hr => exact zq3); intro gb105 hg w3 hbox hb; have BK105 := Aside0.mk (hbox); have GW105 := Aside0.mk ((zq4 : w.heap.size ≤ gb105)); have GE105 := Aside0.mk ((zq4 : w.heap.size ≤ gb105)); replace HB := Aside0.mk (below_step (zq5) hb); clear hb hbox hg))
 (try simp only [Act.put, List.setIfInBounds_toArray, List.set_cons_zero, List.set_cons_succ])
 go_cut [33] (fun v33 wc => ∃ (kq : Nat) (x33_1 : Bool), v33 = .bool x33_1 ∧ Aside0 (plan_isCode.j0 kq x33_1 a0_0 a0_1 a0_2 = some r) ∧ Aside0 (kq ≤ k) ∧ Aside0 (wc.heap[gb105]? = some (.cells #[.string a0_0, .string a0_1, .int .i64 a0_2] 29 (0, 0))) ∧ Aside0 (Below w.heap.size w wc))
 case first =>
  have H := HC2.out
  clear HC2
  by_cases c4 : a0_0.size + a0_1.size ≤ 9223372036854775807
  rotate_left
  ·rw [if_neg c4] at H
   exact absurd H (by simp)
  rw [if_pos c4] at H
  have c4b0 := eq_true c4
  have c4b1 : decide (a0_0.size + a0_1.size ≤ 9223372036854775807) = true := decide_eq_true c4
  try have c4b2 : (9223372036854775807 < a0_0.size + a0_1.size) = False := eq_false (Nat.not_lt.2 c4)
  replace H := Option.bind_eq_some_iff.mp H
  obtain ⟨t106, A50, H⟩ := H
  try dsimp only at H
  have A5 := Aside0.mk A50
  clear A50
  by_cases c6 : t106 = true
  rotate_left
  ·replace c6 := Bool.eq_false_iff.mpr c6
   subst c6
   rw [if_neg (show ¬ (false = true) by decide)] at H
   have H' := Aside0.mk H
   clear H
   have hcz21_0 : w3.cell? ⟨gb105, 0, none⟩ = some (.string a0_0) := (blk_cell BK105.out 0).trans rfl
   have hcz21_1 : w3.cell? ⟨gb105, 1, none⟩ = some (.string a0_1) := (blk_cell BK105.out 1).trans rfl
   have hcz21_2 : w3.cell? ⟨gb105, 2, none⟩ = some (.int .i64 a0_2) := (blk_cell BK105.out 2).trans rfl
   have hfz21_0 := blk_frozen BK105.out 0
   have hfz21_1 := blk_frozen BK105.out 1
   have hfz21_2 := blk_frozen BK105.out 2
   go_wp2_with (first | ((with_reducible refine gate_callee (f := 49) rfl ?_); refine goesL_ (some 8) rfl rfl Tryz.func49 (by kernel_rfl) rfl #[.string (a0_0 ++ a0_1)] rfl (zq7) ?_; (with_reducible refine (plan_isDigits.calls (a0_0 ++ a0_1) false _ A5.out).mono ?_); rintro e w22 ⟨rfl, hb⟩; refine ⟨_, rfl, ?_⟩; replace BK105 := Aside0.mk (blk_below (g := gb105) (o := .cells #[.string a0_0, .string a0_1, .int .i64 a0_2] 29 (0, 0)) (zq8) hb); replace HB := Aside0.mk (below_step (zq9) hb); (try clear hb); (try clear hb2); (try clear hk); (try clear hi)))
   go_meet
   case rel => exact ⟨_, (true), (zq1), H', ⟨zq10⟩, ⟨zq8⟩, ⟨zq9⟩⟩
  subst c6
  rw [if_pos rfl] at H
  replace H := Option.bind_eq_some_iff.mp H
  obtain ⟨t107, A70, H⟩ := H
  try dsimp only at H
  have A7 := Aside0.mk A70
  clear A70
  by_cases c8 : t107 = true
  rotate_left
  ·replace c8 := Bool.eq_false_iff.mpr c8
   subst c8
   rw [if_neg (show ¬ (false = true) by decide)] at H
   have H' := Aside0.mk H
   clear H
   have hcz18_0 : w3.cell? ⟨gb105, 0, none⟩ = some (.string a0_0) := (blk_cell BK105.out 0).trans rfl
   have hcz18_1 : w3.cell? ⟨gb105, 1, none⟩ = some (.string a0_1) := (blk_cell BK105.out 1).trans rfl
   have hcz18_2 : w3.cell? ⟨gb105, 2, none⟩ = some (.int .i64 a0_2) := (blk_cell BK105.out 2).trans rfl
   have hfz18_0 := blk_frozen BK105.out 0
   have hfz18_1 := blk_frozen BK105.out 1
   have hfz18_2 := blk_frozen BK105.out 2
   go_wp2_with (first | ((with_reducible refine gate_callee (f := 49) rfl ?_); refine goesL_ (some 8) rfl rfl Tryz.func49 (by kernel_rfl) rfl #[.string (a0_0 ++ a0_1)] rfl (zq7) ?_; (with_reducible refine (plan_isDigits.calls (a0_0 ++ a0_1) true _ A5.out).mono ?_); rintro e w19 ⟨rfl, hb⟩; refine ⟨_, rfl, ?_⟩; replace BK105 := Aside0.mk (blk_below (g := gb105) (o := .cells #[.string a0_0, .string a0_1, .int .i64 a0_2] 29 (0, 0)) (zq8) hb); replace HB := Aside0.mk (below_step (zq9) hb); (try clear hb); (try clear hb2); (try clear hk); (try clear hi); have hcz20_0 : w19.cell? ⟨gb105, 0, none⟩ = some (.string a0_0) := (blk_cell BK105.out 0).trans rfl; have hcz20_1 : w19.cell? ⟨gb105, 1, none⟩ = some (.string a0_1) := (blk_cell BK105.out 1).trans rfl; have hcz20_2 : w19.cell? ⟨gb105, 2, none⟩ = some (.int .i64 a0_2) := (blk_cell BK105.out 2).trans rfl; have hfz20_0 := blk_frozen BK105.out 0; have hfz20_1 := blk_frozen BK105.out 1; have hfz20_2 := blk_frozen BK105.out 2) | (go_at_call 36; (with_reducible refine (plan_isWithin.calls (a0_0.size : Int) 1 4 false _ A7.out).mono ?_); rintro e w' ⟨rfl, ⟨nd, rfl⟩⟩))
   go_meet
   case rel => exact ⟨_, (true), (zq1), H', ⟨zq10⟩, ⟨zq8⟩, ⟨zq9⟩⟩
  subst c8
  rw [if_pos rfl] at H
  replace H := Option.bind_eq_some_iff.mp H
  obtain ⟨t108, A90, H⟩ := H
  try dsimp only at H
  have A9 := Aside0.mk A90
  clear A90
  by_cases c10 : t108 = true
  rotate_left
  ·replace c10 := Bool.eq_false_iff.mpr c10
   subst c10
   rw [if_neg (show ¬ (false = true) by decide)] at H
   have H' := Aside0.mk H
   clear H
   have hcz15_0 : w3.cell? ⟨gb105, 0, none⟩ = some (.string a0_0) := (blk_cell BK105.out 0).trans rfl
   have hcz15_1 : w3.cell? ⟨gb105, 1, none⟩ = some (.string a0_1) := (blk_cell BK105.out 1).trans rfl
   have hcz15_2 : w3.cell? ⟨gb105, 2, none⟩ = some (.int .i64 a0_2) := (blk_cell BK105.out 2).trans rfl
   have hfz15_0 := blk_frozen BK105.out 0
   have hfz15_1 := blk_frozen BK105.out 1
   have hfz15_2 := blk_frozen BK105.out 2
   go_wp2_with (first | ((with_reducible refine gate_callee (f := 49) rfl ?_); refine goesL_ (some 8) rfl rfl Tryz.func49 (by kernel_rfl) rfl #[.string (a0_0 ++ a0_1)] rfl (zq7) ?_; (with_reducible refine (plan_isDigits.calls (a0_0 ++ a0_1) true _ A5.out).mono ?_); rintro e w16 ⟨rfl, hb⟩; refine ⟨_, rfl, ?_⟩; replace BK105 := Aside0.mk (blk_below (g := gb105) (o := .cells #[.string a0_0, .string a0_1, .int .i64 a0_2] 29 (0, 0)) (zq8) hb); replace HB := Aside0.mk (below_step (zq9) hb); (try clear hb); (try clear hb2); (try clear hk); (try clear hi); have hcz17_0 : w16.cell? ⟨gb105, 0, none⟩ = some (.string a0_0) := (blk_cell BK105.out 0).trans rfl; have hcz17_1 : w16.cell? ⟨gb105, 1, none⟩ = some (.string a0_1) := (blk_cell BK105.out 1).trans rfl; have hcz17_2 : w16.cell? ⟨gb105, 2, none⟩ = some (.int .i64 a0_2) := (blk_cell BK105.out 2).trans rfl; have hfz17_0 := blk_frozen BK105.out 0; have hfz17_1 := blk_frozen BK105.out 1; have hfz17_2 := blk_frozen BK105.out 2) | (go_at_call 36; (with_reducible refine (plan_isWithin.calls (a0_0.size : Int) 1 4 true _ A7.out).mono ?_); rintro e w' ⟨rfl, ⟨nd, rfl⟩⟩) | (go_at_call 36; (with_reducible refine (plan_isWithin.calls (a0_1.size : Int) 1 5 false _ A9.out).mono ?_); rintro e w' ⟨rfl, ⟨nd, rfl⟩⟩))
   go_meet
   case rel => exact ⟨_, (true), (zq1), H', ⟨zq10⟩, ⟨zq8⟩, ⟨zq9⟩⟩
  subst c10
  rw [if_pos rfl] at H
  replace H := Option.bind_eq_some_iff.mp H
  obtain ⟨t109, A110, H⟩ := H
  try dsimp only at H
  have A11 := Aside0.mk A110
  clear A110
  have H' := Aside0.mk H
  clear H
  have hcz12_0 : w3.cell? ⟨gb105, 0, none⟩ = some (.string a0_0) := (blk_cell BK105.out 0).trans rfl
  have hcz12_1 : w3.cell? ⟨gb105, 1, none⟩ = some (.string a0_1) := (blk_cell BK105.out 1).trans rfl
  have hcz12_2 : w3.cell? ⟨gb105, 2, none⟩ = some (.int .i64 a0_2) := (blk_cell BK105.out 2).trans rfl
  have hfz12_0 := blk_frozen BK105.out 0
  have hfz12_1 := blk_frozen BK105.out 1
  have hfz12_2 := blk_frozen BK105.out 2
  go_wp2_with (first | ((with_reducible refine gate_callee (f := 49) rfl ?_); refine goesL_ (some 8) rfl rfl Tryz.func49 (by kernel_rfl) rfl #[.string (a0_0 ++ a0_1)] rfl (zq7) ?_; (with_reducible refine (plan_isDigits.calls (a0_0 ++ a0_1) true _ A5.out).mono ?_); rintro e w13 ⟨rfl, hb⟩; refine ⟨_, rfl, ?_⟩; replace BK105 := Aside0.mk (blk_below (g := gb105) (o := .cells #[.string a0_0, .string a0_1, .int .i64 a0_2] 29 (0, 0)) (zq8) hb); replace HB := Aside0.mk (below_step (zq9) hb); (try clear hb); (try clear hb2); (try clear hk); (try clear hi); have hcz14_0 : w13.cell? ⟨gb105, 0, none⟩ = some (.string a0_0) := (blk_cell BK105.out 0).trans rfl; have hcz14_1 : w13.cell? ⟨gb105, 1, none⟩ = some (.string a0_1) := (blk_cell BK105.out 1).trans rfl; have hcz14_2 : w13.cell? ⟨gb105, 2, none⟩ = some (.int .i64 a0_2) := (blk_cell BK105.out 2).trans rfl; have hfz14_0 := blk_frozen BK105.out 0; have hfz14_1 := blk_frozen BK105.out 1; have hfz14_2 := blk_frozen BK105.out 2) | (go_at_call 36; (with_reducible refine (plan_isWithin.calls (a0_0.size : Int) 1 4 true _ A7.out).mono ?_); rintro e w' ⟨rfl, ⟨nd, rfl⟩⟩) | (go_at_call 36; (with_reducible refine (plan_isWithin.calls (a0_1.size : Int) 1 5 true _ A9.out).mono ?_); rintro e w' ⟨rfl, ⟨nd, rfl⟩⟩) | (go_at_call 36; (with_reducible refine (plan_isWithin.calls a0_2 (wrap64 ((a0_0.size : Int) + 1)) 7 t109 _ A11.out).mono ?_); rintro e w' ⟨rfl, ⟨nd, rfl⟩⟩))
  go_meet
  case rel => exact ⟨_, (!t109), (zq1), H', ⟨zq10⟩, ⟨zq8⟩, ⟨zq9⟩⟩
 case rest =>
  clear HC2
  try clear c1
  try clear p2
  try clear c4
  try clear c4b0
  try clear c4b1
  try clear c4b2
  try clear c5
  try clear c6
  try clear p6
  try clear c8
  try clear c10
  try clear hcz12_0
  try clear hcz12_1
  try clear hcz12_2
  try clear hcz14_0
  try clear hcz14_1
  try clear hcz14_2
  try clear hcz15_0
  try clear hcz15_1
  try clear hcz15_2
  try clear hcz17_0
  try clear hcz17_1
  try clear hcz17_2
  try clear hcz18_0
  try clear hcz18_1
  try clear hcz18_2
  try clear hcz20_0
  try clear hcz20_1
  try clear hcz20_2
  try clear hcz21_0
  try clear hcz21_1
  try clear hcz21_2
  try clear hfz12_0
  try clear hfz12_1
  try clear hfz12_2
  try clear hfz14_0
  try clear hfz14_1
  try clear hfz14_2
  try clear hfz15_0
  try clear hfz15_1
  try clear hfz15_2
  try clear hfz17_0
  try clear hfz17_1
  try clear hfz17_2
  try clear hfz18_0
  try clear hfz18_1
  try clear hfz18_2
  try clear hfz20_0
  try clear hfz20_1
  try clear hfz20_2
  try clear hfz21_0
  try clear hfz21_1
  try clear hfz21_2
  obtain ⟨kq, x33_1, rfl, HA, HJ1, BK105, HB⟩ := hcut
  cases kq with
  | zero => exact absurd HA.out (by simp [plan_isCode.j0])
  | succ kj1 =>
   have H := HA.out
   clear HA
   simp only [plan_isCode.j0] at H
   by_cases c23 : x33_1 = true
   ·subst c23
    rw [if_pos rfl] at H
    obtain rfl := Option.some.inj H
    go_wp2
    go_ret
    exact ⟨zq6, zq9⟩
   replace c23 := Bool.eq_false_iff.mpr c23
   subst c23
   rw [if_neg (show ¬ (false = true) by decide)] at H
   replace H := Option.bind_eq_some_iff.mp H
   obtain ⟨t110, A240, H⟩ := H
   try dsimp only at H
   have A24 := Aside0.mk A240
   clear A240
   by_cases c25 : t110 ≤ (wrap64 (8 - (a0_1.size : Int)))
   rotate_left
   ·rw [if_neg c25] at H
    have c25b0 : decide (t110 ≤ (wrap64 (8 - (a0_1.size : Int)))) = false := decide_eq_false c25
    clear c25
    obtain rfl := Option.some.inj H
    try go_wp2
    replace BK105 := Aside0.mk (blk_drew BK105.out)
    replace HB := Aside0.mk (below_drew1 HB.out)
    refine start_ (n := 15) (S := fun w' => w'.cell? ⟨gb105, 0, none⟩ = some (.string a0_0) ∧ w'.cell? ⟨gb105, 1, none⟩ = some (.string a0_1) ∧ w'.cell? ⟨gb105, 2, none⟩ = some (.int .i64 a0_2)) (ds := []) (bm 15 0) (by kernel_rfl) rfl rfl ⟨(blk_cell BK105.out 0).trans rfl, (blk_cell BK105.out 1).trans rfl, (blk_cell BK105.out 2).trans rfl⟩ (fun hHeld => ?_); refine with_tabW plan_isCode.tab3 plan_isCode.bits3 (fun HT_ HW_ => ?_)
    generalize wc.drew = w30 at BK105 HB hHeld ⊢
    refine pz 2 (some 36) (bm 15 4) HT_ ?_
    refine tz 0 (some 34) (bm 15 5) HT_ HW_ hHeld ?_
    refine tz 3 (some 37) (bm 15 13) HT_ HW_ hHeld ?_
    refine pz 4 (some 38) (bm 15 29) HT_ ?_
    refine pz 5 (some 39) (bm 15 61) HT_ ?_
    refine one_ (i := 1) (N := some 35) (bm 15 63) rfl rfl (one_of HT_.out (by kernel_rfl)) (by decide) (fun K hK => ?_)
    refine goes_ Tryz.func39 (by kernel_rfl) rfl #[.agg #[.string a0_0, .string a0_1, .int .i64 a0_2]] (by rfl) rfl rfl (zq7) ?_
    with_reducible refine (plan_room.calls a0_0 a0_1 a0_2 t110 _ A24.out).mono ?_
    rintro e w31 ⟨rfl, hb⟩
    refine ⟨_, rfl, ?_⟩
    replace BK105 := Aside0.mk (blk_below (g := gb105) (o := .cells #[.string a0_0, .string a0_1, .int .i64 a0_2] 29 (0, 0)) (zq8) hb)
    replace HB := Aside0.mk (below_step (zq9) hb)
    (try clear hb)
    (try clear hb2)
    (try clear hk)
    (try clear hi)
    refine hK.out _ _ ⟨(blk_cell BK105.out 0).trans rfl, (blk_cell BK105.out 1).trans rfl, (blk_cell BK105.out 2).trans rfl⟩ (fun hHeld => ?_)
    clear hK K
    refine nz (some 35) ?_
    refine pz 6 (some 40) (bm 15 127) HT_ ?_
    refine pz 7 (some 41) (bm 15 255) HT_ ?_
    refine uz 8 (some 42) (bm 15 511) HT_ ?_
    refine uz 9 (some 43) (bm 15 1023) HT_ ?_
    refine uz 10 (some 44) (bm 15 2047) HT_ ?_
    refine uz 11 (some 45) (bm 15 4095) HT_ ?_
    refine uz 12 (some 46) (bm 15 8191) HT_ ?_
    refine pz 13 (some 47) (bm 15 16383) HT_ ?_
    refine pz 14 (some 2) (bm 15 32767) HT_ ?_
    refine done_ (done_of HT_.out (by kernel_rfl)) ?_
    try go_wp2
    go_ret
    exact ⟨zq6, zq9⟩
   rw [if_pos c25] at H
   have c25b0 : decide (t110 ≤ (wrap64 (8 - (a0_1.size : Int)))) = true := decide_eq_true c25
   clear c25
   replace H := Option.bind_eq_some_iff.mp H
   obtain ⟨t111, A260, H⟩ := H
   try dsimp only at H
   have A26 := Aside0.mk A260
   clear A260
   obtain rfl := Option.some.inj H
   try go_wp2
   replace BK105 := Aside0.mk (blk_drew BK105.out)
   replace HB := Aside0.mk (below_drew1 HB.out)
   refine start_ (n := 15) (S := fun w' => w'.cell? ⟨gb105, 0, none⟩ = some (.string a0_0) ∧ w'.cell? ⟨gb105, 1, none⟩ = some (.string a0_1) ∧ w'.cell? ⟨gb105, 2, none⟩ = some (.int .i64 a0_2)) (ds := []) (bm 15 0) (by kernel_rfl) rfl rfl ⟨(blk_cell BK105.out 0).trans rfl, (blk_cell BK105.out 1).trans rfl, (blk_cell BK105.out 2).trans rfl⟩ (fun hHeld => ?_); refine with_tabW plan_isCode.tab3 plan_isCode.bits3 (fun HT_ HW_ => ?_)
   generalize wc.drew = w27 at BK105 HB hHeld ⊢
   refine pz 2 (some 36) (bm 15 4) HT_ ?_
   refine tz 0 (some 34) (bm 15 5) HT_ HW_ hHeld ?_
   refine tz 3 (some 37) (bm 15 13) HT_ HW_ hHeld ?_
   refine pz 4 (some 38) (bm 15 29) HT_ ?_
   refine pz 5 (some 39) (bm 15 61) HT_ ?_
   refine one_ (i := 1) (N := some 35) (bm 15 63) rfl rfl (one_of HT_.out (by kernel_rfl)) (by decide) (fun K hK => ?_)
   refine goes_ Tryz.func39 (by kernel_rfl) rfl #[.agg #[.string a0_0, .string a0_1, .int .i64 a0_2]] (by rfl) rfl rfl (zq7) ?_
   with_reducible refine (plan_room.calls a0_0 a0_1 a0_2 t110 _ A24.out).mono ?_
   rintro e w28 ⟨rfl, hb⟩
   refine ⟨_, rfl, ?_⟩
   replace BK105 := Aside0.mk (blk_below (g := gb105) (o := .cells #[.string a0_0, .string a0_1, .int .i64 a0_2] 29 (0, 0)) (zq8) hb)
   replace HB := Aside0.mk (below_step (zq9) hb)
   (try clear hb)
   (try clear hb2)
   (try clear hk)
   (try clear hi)
   refine hK.out _ _ ⟨(blk_cell BK105.out 0).trans rfl, (blk_cell BK105.out 1).trans rfl, (blk_cell BK105.out 2).trans rfl⟩ (fun hHeld => ?_)
   clear hK K
   refine nz (some 35) ?_
   refine pz 6 (some 40) (bm 15 127) HT_ ?_
   refine pz 7 (some 41) (bm 15 255) HT_ ?_
   refine pz 8 (some 42) (bm 15 511) HT_ ?_
   refine pz 10 (some 44) (bm 15 1535) HT_ ?_
   refine tz 9 (some 43) (bm 15 2047) HT_ HW_ hHeld ?_
   refine tz 11 (some 45) (bm 15 4095) HT_ HW_ hHeld ?_
   refine one_ (i := 12) (N := some 46) (bm 15 8191) rfl rfl (one_of HT_.out (by kernel_rfl)) (by decide) (fun K hK => ?_)
   refine goes_ Tryz.func56 (by kernel_rfl) rfl #[.string a0_0, .string a0_1] (by rfl) rfl rfl (zq7) ?_
   with_reducible refine (plan_areApart.calls a0_0 a0_1 t111 _ A26.out).mono ?_
   rintro e w29 ⟨rfl, hb⟩
   refine ⟨_, rfl, ?_⟩
   replace BK105 := Aside0.mk (blk_below (g := gb105) (o := .cells #[.string a0_0, .string a0_1, .int .i64 a0_2] 29 (0, 0)) (zq8) hb)
   replace HB := Aside0.mk (below_step (zq9) hb)
   (try clear hb)
   (try clear hb2)
   (try clear hk)
   (try clear hi)
   refine hK.out _ _ ⟨(blk_cell BK105.out 0).trans rfl, (blk_cell BK105.out 1).trans rfl, (blk_cell BK105.out 2).trans rfl⟩ (fun hHeld => ?_)
   clear hK K
   refine nz (some 46) ?_
   refine pz 13 (some 47) (bm 15 16383) HT_ ?_
   refine pz 14 (some 2) (bm 15 32767) HT_ ?_
   refine done_ (done_of HT_.out (by kernel_rfl)) ?_
   try go_wp2
   go_ret
   exact ⟨zq6, zq9⟩
def plan_Valid_1.f (a0_0 : ByteArray) (a0_1 : ByteArray) (a0_2 : Int) (a1_0 : ByteArray) (a1_1 : ByteArray) (a1_2 : Int) : Option (Bool) := (plan_areApart.f a0_0 a1_0).bind fun t114 => (if t114 = true then ((plan_areApart.f a0_1 a1_1).bind fun t115 => (if t115 = true then ((plan_areApart.f a0_0 a1_1).bind fun t116 => (if t116 = true then ((plan_areApart.f a0_1 a1_0).bind fun t117 => (some t117)) else (some false))) else (some false))) else (some false))
set_option maxHeartbeats 8000000 in
set_option maxRecDepth 100000 in
theorem plan_Valid_1.calls (a0_0 : ByteArray) (a0_1 : ByteArray) (a0_2 : Int) (a1_0 : ByteArray) (a1_1 : ByteArray) (a1_2 : Int) (r : Bool) (w : World) (h : plan_Valid_1.f a0_0 a0_1 a0_2 a1_0 a1_1 a1_2 = some r) :
 Calls Tryz.prog 55 #[.agg #[.string a0_0, .string a0_1, .int .i64 a0_2], .agg #[.string a1_0, .string a1_1, .int .i64 a1_2]] w fun e w' => e = .returned (.bool r) ∧ Below w.heap.size w w' := by
 have hu29 := Tryz.underlying29
 have HB := Aside0.mk (Below.refl w.heap.size w)
 have H : ((plan_areApart.f a0_0 a1_0).bind fun t114 => (if t114 = true then ((plan_areApart.f a0_1 a1_1).bind fun t115 => (if t115 = true then ((plan_areApart.f a0_0 a1_1).bind fun t116 => (if t116 = true then ((plan_areApart.f a0_1 a1_0).bind fun t117 => (some t117)) else (some false))) else (some false))) else (some false))) = some r := h
 clear h
 replace H := Option.bind_eq_some_iff.mp H
 obtain ⟨t114, A30, H⟩ := H
 try dsimp only at H
 have A3 := Aside0.mk A30
 clear A30
 by_cases c4 : t114 = true
 rotate_left
 ·replace c4 := Bool.eq_false_iff.mpr c4
  subst c4
  rw [if_neg (show ¬ (false = true) by decide)] at H
  obtain rfl := Option.some.inj H
  go_enter Tryz.func55, Tryz.ntmps55
  go_wp2_with (first | ((with_reducible refine gate_dst (N := 2) rfl ?_); refine box_event ?hg (N := 2) ?hd (cs := #[.string a0_0, .string a0_1, .int .i64 a0_2]) (t := 29) ?hr ?_; (case hd => rfl); (case hg => rfl); (case hr => exact zq3); intro gb112 hg w46 hbox hb; have BK112 := Aside0.mk (hbox); have GW112 := Aside0.mk ((zq4 : w.heap.size ≤ gb112)); have GE112 := Aside0.mk ((zq4 : w.heap.size ≤ gb112)); replace HB := Aside0.mk (below_step (zq5) hb); clear hb hbox hg) | ((with_reducible refine gate_dst (N := 3) rfl ?_); refine box_event ?hg (N := 3) ?hd (cs := #[.string a1_0, .string a1_1, .int .i64 a1_2]) (t := 29) ?hr ?_; (case hd => rfl); (case hg => rfl); (case hr => exact zq3); intro gb113 hg w47 hbox hb; have BK113 := Aside0.mk (hbox); have GW113 := Aside0.mk ((zq11 : w.heap.size ≤ gb113)); have GE113 := Aside0.mk ((zq11 : w.heap.size ≤ gb113)); replace HB := Aside0.mk (below_step (zq12) hb); have NB112_113 := Aside0.mk ((zq13 : gb112 ≠ gb113)); have NB113_112 := Aside0.mk ((zq15 : gb113 ≠ gb112)); replace BK112 := Aside0.mk (blk_below (g := gb112) (o := .cells #[.string a0_0, .string a0_1, .int .i64 a0_2] 29 (0, 0)) (zq14) hb); clear hb hbox hg; have hnb48 := NB112_113.out; have hnc48 := NB113_112.out; have hcz49_0 : w47.cell? ⟨gb112, 0, none⟩ = some (.string a0_0) := (blk_cell BK112.out 0).trans rfl; have hcz49_1 : w47.cell? ⟨gb112, 1, none⟩ = some (.string a0_1) := (blk_cell BK112.out 1).trans rfl; have hcz49_2 : w47.cell? ⟨gb112, 2, none⟩ = some (.int .i64 a0_2) := (blk_cell BK112.out 2).trans rfl; have hfz49_0 := blk_frozen BK112.out 0; have hfz49_1 := blk_frozen BK112.out 1; have hfz49_2 := blk_frozen BK112.out 2; have hcz50_0 : w47.cell? ⟨gb113, 0, none⟩ = some (.string a1_0) := (blk_cell BK113.out 0).trans rfl; have hcz50_1 : w47.cell? ⟨gb113, 1, none⟩ = some (.string a1_1) := (blk_cell BK113.out 1).trans rfl; have hcz50_2 : w47.cell? ⟨gb113, 2, none⟩ = some (.int .i64 a1_2) := (blk_cell BK113.out 2).trans rfl; have hfz50_0 := blk_frozen BK113.out 0; have hfz50_1 := blk_frozen BK113.out 1; have hfz50_2 := blk_frozen BK113.out 2) | ((with_reducible refine gate_callee (f := 56) rfl ?_); refine goesL_ (some 9) rfl rfl Tryz.func56 (by kernel_rfl) rfl #[.string a0_0, .string a1_0] rfl (zq7) ?_; (with_reducible refine (plan_areApart.calls a0_0 a1_0 false _ A3.out).mono ?_); rintro e w51 ⟨rfl, hb⟩; refine ⟨_, rfl, ?_⟩; replace BK112 := Aside0.mk (blk_below (g := gb112) (o := .cells #[.string a0_0, .string a0_1, .int .i64 a0_2] 29 (0, 0)) (zq14) hb); replace BK113 := Aside0.mk (blk_below (g := gb113) (o := .cells #[.string a1_0, .string a1_1, .int .i64 a1_2] 29 (0, 0)) (zq16) hb); replace HB := Aside0.mk (below_step (zq17) hb); (try clear hb); (try clear hb2); (try clear hk); (try clear hi)))
  go_ret
  exact ⟨zq6, zq17⟩
 subst c4
 rw [if_pos rfl] at H
 replace H := Option.bind_eq_some_iff.mp H
 obtain ⟨t115, A50, H⟩ := H
 try dsimp only at H
 have A5 := Aside0.mk A50
 clear A50
 by_cases c6 : t115 = true
 rotate_left
 ·replace c6 := Bool.eq_false_iff.mpr c6
  subst c6
  rw [if_neg (show ¬ (false = true) by decide)] at H
  obtain rfl := Option.some.inj H
  go_enter Tryz.func55, Tryz.ntmps55
  go_wp2_with (first | ((with_reducible refine gate_dst (N := 2) rfl ?_); refine box_event ?hg (N := 2) ?hd (cs := #[.string a0_0, .string a0_1, .int .i64 a0_2]) (t := 29) ?hr ?_; (case hd => rfl); (case hg => rfl); (case hr => exact zq3); intro gb112 hg w37 hbox hb; have BK112 := Aside0.mk (hbox); have GW112 := Aside0.mk ((zq4 : w.heap.size ≤ gb112)); have GE112 := Aside0.mk ((zq4 : w.heap.size ≤ gb112)); replace HB := Aside0.mk (below_step (zq5) hb); clear hb hbox hg) | ((with_reducible refine gate_dst (N := 3) rfl ?_); refine box_event ?hg (N := 3) ?hd (cs := #[.string a1_0, .string a1_1, .int .i64 a1_2]) (t := 29) ?hr ?_; (case hd => rfl); (case hg => rfl); (case hr => exact zq3); intro gb113 hg w38 hbox hb; have BK113 := Aside0.mk (hbox); have GW113 := Aside0.mk ((zq11 : w.heap.size ≤ gb113)); have GE113 := Aside0.mk ((zq11 : w.heap.size ≤ gb113)); replace HB := Aside0.mk (below_step (zq12) hb); have NB112_113 := Aside0.mk ((zq13 : gb112 ≠ gb113)); have NB113_112 := Aside0.mk ((zq15 : gb113 ≠ gb112)); replace BK112 := Aside0.mk (blk_below (g := gb112) (o := .cells #[.string a0_0, .string a0_1, .int .i64 a0_2] 29 (0, 0)) (zq14) hb); clear hb hbox hg; have hnb39 := NB112_113.out; have hnc39 := NB113_112.out; have hcz40_0 : w38.cell? ⟨gb112, 0, none⟩ = some (.string a0_0) := (blk_cell BK112.out 0).trans rfl; have hcz40_1 : w38.cell? ⟨gb112, 1, none⟩ = some (.string a0_1) := (blk_cell BK112.out 1).trans rfl; have hcz40_2 : w38.cell? ⟨gb112, 2, none⟩ = some (.int .i64 a0_2) := (blk_cell BK112.out 2).trans rfl; have hfz40_0 := blk_frozen BK112.out 0; have hfz40_1 := blk_frozen BK112.out 1; have hfz40_2 := blk_frozen BK112.out 2; have hcz41_0 : w38.cell? ⟨gb113, 0, none⟩ = some (.string a1_0) := (blk_cell BK113.out 0).trans rfl; have hcz41_1 : w38.cell? ⟨gb113, 1, none⟩ = some (.string a1_1) := (blk_cell BK113.out 1).trans rfl; have hcz41_2 : w38.cell? ⟨gb113, 2, none⟩ = some (.int .i64 a1_2) := (blk_cell BK113.out 2).trans rfl; have hfz41_0 := blk_frozen BK113.out 0; have hfz41_1 := blk_frozen BK113.out 1; have hfz41_2 := blk_frozen BK113.out 2) | ((with_reducible refine gate_callee (f := 56) rfl ?_); refine goesL_ (some 9) rfl rfl Tryz.func56 (by kernel_rfl) rfl #[.string a0_0, .string a1_0] rfl (zq7) ?_; (with_reducible refine (plan_areApart.calls a0_0 a1_0 true _ A3.out).mono ?_); rintro e w42 ⟨rfl, hb⟩; refine ⟨_, rfl, ?_⟩; replace BK112 := Aside0.mk (blk_below (g := gb112) (o := .cells #[.string a0_0, .string a0_1, .int .i64 a0_2] 29 (0, 0)) (zq14) hb); replace BK113 := Aside0.mk (blk_below (g := gb113) (o := .cells #[.string a1_0, .string a1_1, .int .i64 a1_2] 29 (0, 0)) (zq16) hb); replace HB := Aside0.mk (below_step (zq17) hb); (try clear hb); (try clear hb2); (try clear hk); (try clear hi); have hcz43_0 : w42.cell? ⟨gb112, 0, none⟩ = some (.string a0_0) := (blk_cell BK112.out 0).trans rfl; have hcz43_1 : w42.cell? ⟨gb112, 1, none⟩ = some (.string a0_1) := (blk_cell BK112.out 1).trans rfl; have hcz43_2 : w42.cell? ⟨gb112, 2, none⟩ = some (.int .i64 a0_2) := (blk_cell BK112.out 2).trans rfl; have hfz43_0 := blk_frozen BK112.out 0; have hfz43_1 := blk_frozen BK112.out 1; have hfz43_2 := blk_frozen BK112.out 2; have hcz44_0 : w42.cell? ⟨gb113, 0, none⟩ = some (.string a1_0) := (blk_cell BK113.out 0).trans rfl; have hcz44_1 : w42.cell? ⟨gb113, 1, none⟩ = some (.string a1_1) := (blk_cell BK113.out 1).trans rfl; have hcz44_2 : w42.cell? ⟨gb113, 2, none⟩ = some (.int .i64 a1_2) := (blk_cell BK113.out 2).trans rfl; have hfz44_0 := blk_frozen BK113.out 0; have hfz44_1 := blk_frozen BK113.out 1; have hfz44_2 := blk_frozen BK113.out 2) | (go_at_call 56; (with_reducible refine (plan_areApart.calls a0_1 a1_1 false _ A5.out).mono ?_); rintro e w45 ⟨rfl, hb⟩; replace BK112 := Aside0.mk (blk_below (g := gb112) (o := .cells #[.string a0_0, .string a0_1, .int .i64 a0_2] 29 (0, 0)) (zq14) hb); replace BK113 := Aside0.mk (blk_below (g := gb113) (o := .cells #[.string a1_0, .string a1_1, .int .i64 a1_2] 29 (0, 0)) (zq16) hb); replace HB := Aside0.mk (below_step (zq17) hb); (try clear hb); (try clear hb2); (try clear hk); (try clear hi)))
  go_ret
  exact ⟨zq6, zq17⟩
 subst c6
 rw [if_pos rfl] at H
 replace H := Option.bind_eq_some_iff.mp H
 obtain ⟨t116, A70, H⟩ := H
 try dsimp only at H
 have A7 := Aside0.mk A70
 clear A70
 by_cases c8 : t116 = true
 rotate_left
 ·replace c8 := Bool.eq_false_iff.mpr c8
  subst c8
  rw [if_neg (show ¬ (false = true) by decide)] at H
  obtain rfl := Option.some.inj H
  go_enter Tryz.func55, Tryz.ntmps55
  go_wp2_with (first | ((with_reducible refine gate_dst (N := 2) rfl ?_); refine box_event ?hg (N := 2) ?hd (cs := #[.string a0_0, .string a0_1, .int .i64 a0_2]) (t := 29) ?hr ?_; (case hd => rfl); (case hg => rfl); (case hr => exact zq3); intro gb112 hg w25 hbox hb; have BK112 := Aside0.mk (hbox); have GW112 := Aside0.mk ((zq4 : w.heap.size ≤ gb112)); have GE112 := Aside0.mk ((zq4 : w.heap.size ≤ gb112)); replace HB := Aside0.mk (below_step (zq5) hb); clear hb hbox hg) | ((with_reducible refine gate_dst (N := 3) rfl ?_); refine box_event ?hg (N := 3) ?hd (cs := #[.string a1_0, .string a1_1, .int .i64 a1_2]) (t := 29) ?hr ?_; (case hd => rfl); (case hg => rfl); (case hr => exact zq3); intro gb113 hg w26 hbox hb; have BK113 := Aside0.mk (hbox); have GW113 := Aside0.mk ((zq11 : w.heap.size ≤ gb113)); have GE113 := Aside0.mk ((zq11 : w.heap.size ≤ gb113)); replace HB := Aside0.mk (below_step (zq12) hb); have NB112_113 := Aside0.mk ((zq13 : gb112 ≠ gb113)); have NB113_112 := Aside0.mk ((zq15 : gb113 ≠ gb112)); replace BK112 := Aside0.mk (blk_below (g := gb112) (o := .cells #[.string a0_0, .string a0_1, .int .i64 a0_2] 29 (0, 0)) (zq14) hb); clear hb hbox hg; have hnb27 := NB112_113.out; have hnc27 := NB113_112.out; have hcz28_0 : w26.cell? ⟨gb112, 0, none⟩ = some (.string a0_0) := (blk_cell BK112.out 0).trans rfl; have hcz28_1 : w26.cell? ⟨gb112, 1, none⟩ = some (.string a0_1) := (blk_cell BK112.out 1).trans rfl; have hcz28_2 : w26.cell? ⟨gb112, 2, none⟩ = some (.int .i64 a0_2) := (blk_cell BK112.out 2).trans rfl; have hfz28_0 := blk_frozen BK112.out 0; have hfz28_1 := blk_frozen BK112.out 1; have hfz28_2 := blk_frozen BK112.out 2; have hcz29_0 : w26.cell? ⟨gb113, 0, none⟩ = some (.string a1_0) := (blk_cell BK113.out 0).trans rfl; have hcz29_1 : w26.cell? ⟨gb113, 1, none⟩ = some (.string a1_1) := (blk_cell BK113.out 1).trans rfl; have hcz29_2 : w26.cell? ⟨gb113, 2, none⟩ = some (.int .i64 a1_2) := (blk_cell BK113.out 2).trans rfl; have hfz29_0 := blk_frozen BK113.out 0; have hfz29_1 := blk_frozen BK113.out 1; have hfz29_2 := blk_frozen BK113.out 2) | ((with_reducible refine gate_callee (f := 56) rfl ?_); refine goesL_ (some 9) rfl rfl Tryz.func56 (by kernel_rfl) rfl #[.string a0_0, .string a1_0] rfl (zq7) ?_; (with_reducible refine (plan_areApart.calls a0_0 a1_0 true _ A3.out).mono ?_); rintro e w30 ⟨rfl, hb⟩; refine ⟨_, rfl, ?_⟩; replace BK112 := Aside0.mk (blk_below (g := gb112) (o := .cells #[.string a0_0, .string a0_1, .int .i64 a0_2] 29 (0, 0)) (zq14) hb); replace BK113 := Aside0.mk (blk_below (g := gb113) (o := .cells #[.string a1_0, .string a1_1, .int .i64 a1_2] 29 (0, 0)) (zq16) hb); replace HB := Aside0.mk (below_step (zq17) hb); (try clear hb); (try clear hb2); (try clear hk); (try clear hi); have hcz31_0 : w30.cell? ⟨gb112, 0, none⟩ = some (.string a0_0) := (blk_cell BK112.out 0).trans rfl; have hcz31_1 : w30.cell? ⟨gb112, 1, none⟩ = some (.string a0_1) := (blk_cell BK112.out 1).trans rfl; have hcz31_2 : w30.cell? ⟨gb112, 2, none⟩ = some (.int .i64 a0_2) := (blk_cell BK112.out 2).trans rfl; have hfz31_0 := blk_frozen BK112.out 0; have hfz31_1 := blk_frozen BK112.out 1; have hfz31_2 := blk_frozen BK112.out 2; have hcz32_0 : w30.cell? ⟨gb113, 0, none⟩ = some (.string a1_0) := (blk_cell BK113.out 0).trans rfl; have hcz32_1 : w30.cell? ⟨gb113, 1, none⟩ = some (.string a1_1) := (blk_cell BK113.out 1).trans rfl; have hcz32_2 : w30.cell? ⟨gb113, 2, none⟩ = some (.int .i64 a1_2) := (blk_cell BK113.out 2).trans rfl; have hfz32_0 := blk_frozen BK113.out 0; have hfz32_1 := blk_frozen BK113.out 1; have hfz32_2 := blk_frozen BK113.out 2) | (go_at_call 56; (with_reducible refine (plan_areApart.calls a0_1 a1_1 true _ A5.out).mono ?_); rintro e w33 ⟨rfl, hb⟩; replace BK112 := Aside0.mk (blk_below (g := gb112) (o := .cells #[.string a0_0, .string a0_1, .int .i64 a0_2] 29 (0, 0)) (zq14) hb); replace BK113 := Aside0.mk (blk_below (g := gb113) (o := .cells #[.string a1_0, .string a1_1, .int .i64 a1_2] 29 (0, 0)) (zq16) hb); replace HB := Aside0.mk (below_step (zq17) hb); (try clear hb); (try clear hb2); (try clear hk); (try clear hi); have hcz34_0 : w33.cell? ⟨gb112, 0, none⟩ = some (.string a0_0) := (blk_cell BK112.out 0).trans rfl; have hcz34_1 : w33.cell? ⟨gb112, 1, none⟩ = some (.string a0_1) := (blk_cell BK112.out 1).trans rfl; have hcz34_2 : w33.cell? ⟨gb112, 2, none⟩ = some (.int .i64 a0_2) := (blk_cell BK112.out 2).trans rfl; have hfz34_0 := blk_frozen BK112.out 0; have hfz34_1 := blk_frozen BK112.out 1; have hfz34_2 := blk_frozen BK112.out 2; have hcz35_0 : w33.cell? ⟨gb113, 0, none⟩ = some (.string a1_0) := (blk_cell BK113.out 0).trans rfl; have hcz35_1 : w33.cell? ⟨gb113, 1, none⟩ = some (.string a1_1) := (blk_cell BK113.out 1).trans rfl; have hcz35_2 : w33.cell? ⟨gb113, 2, none⟩ = some (.int .i64 a1_2) := (blk_cell BK113.out 2).trans rfl; have hfz35_0 := blk_frozen BK113.out 0; have hfz35_1 := blk_frozen BK113.out 1; have hfz35_2 := blk_frozen BK113.out 2) | (go_at_call 56; (with_reducible refine (plan_areApart.calls a0_0 a1_1 false _ A7.out).mono ?_); rintro e w36 ⟨rfl, hb⟩; replace BK112 := Aside0.mk (blk_below (g := gb112) (o := .cells #[.string a0_0, .string a0_1, .int .i64 a0_2] 29 (0, 0)) (zq14) hb); replace BK113 := Aside0.mk (blk_below (g := gb113) (o := .cells #[.string a1_0, .string a1_1, .int .i64 a1_2] 29 (0, 0)) (zq16) hb); replace HB := Aside0.mk (below_step (zq17) hb); (try clear hb); (try clear hb2); (try clear hk); (try clear hi)))
  go_ret
  exact ⟨zq6, zq17⟩
 subst c8
 rw [if_pos rfl] at H
 replace H := Option.bind_eq_some_iff.mp H
 obtain ⟨t117, A90, H⟩ := H
 try dsimp only at H
 have A9 := Aside0.mk A90
 clear A90
 obtain rfl := Option.some.inj H
 go_enter Tryz.func55, Tryz.ntmps55
 go_wp2_with (first | ((with_reducible refine gate_dst (N := 2) rfl ?_); refine box_event ?hg (N := 2) ?hd (cs := #[.string a0_0, .string a0_1, .int .i64 a0_2]) (t := 29) ?hr ?_; (case hd => rfl); (case hg => rfl); (case hr => exact zq3); intro gb112 hg w10 hbox hb; have BK112 := Aside0.mk (hbox); have GW112 := Aside0.mk ((zq4 : w.heap.size ≤ gb112)); have GE112 := Aside0.mk ((zq4 : w.heap.size ≤ gb112)); replace HB := Aside0.mk (below_step (zq5) hb); clear hb hbox hg) | ((with_reducible refine gate_dst (N := 3) rfl ?_); refine box_event ?hg (N := 3) ?hd (cs := #[.string a1_0, .string a1_1, .int .i64 a1_2]) (t := 29) ?hr ?_; (case hd => rfl); (case hg => rfl); (case hr => exact zq3); intro gb113 hg w11 hbox hb; have BK113 := Aside0.mk (hbox); have GW113 := Aside0.mk ((zq11 : w.heap.size ≤ gb113)); have GE113 := Aside0.mk ((zq11 : w.heap.size ≤ gb113)); replace HB := Aside0.mk (below_step (zq12) hb); have NB112_113 := Aside0.mk ((zq13 : gb112 ≠ gb113)); have NB113_112 := Aside0.mk ((zq15 : gb113 ≠ gb112)); replace BK112 := Aside0.mk (blk_below (g := gb112) (o := .cells #[.string a0_0, .string a0_1, .int .i64 a0_2] 29 (0, 0)) (zq14) hb); clear hb hbox hg; have hnb12 := NB112_113.out; have hnc12 := NB113_112.out; have hcz13_0 : w11.cell? ⟨gb112, 0, none⟩ = some (.string a0_0) := (blk_cell BK112.out 0).trans rfl; have hcz13_1 : w11.cell? ⟨gb112, 1, none⟩ = some (.string a0_1) := (blk_cell BK112.out 1).trans rfl; have hcz13_2 : w11.cell? ⟨gb112, 2, none⟩ = some (.int .i64 a0_2) := (blk_cell BK112.out 2).trans rfl; have hfz13_0 := blk_frozen BK112.out 0; have hfz13_1 := blk_frozen BK112.out 1; have hfz13_2 := blk_frozen BK112.out 2; have hcz14_0 : w11.cell? ⟨gb113, 0, none⟩ = some (.string a1_0) := (blk_cell BK113.out 0).trans rfl; have hcz14_1 : w11.cell? ⟨gb113, 1, none⟩ = some (.string a1_1) := (blk_cell BK113.out 1).trans rfl; have hcz14_2 : w11.cell? ⟨gb113, 2, none⟩ = some (.int .i64 a1_2) := (blk_cell BK113.out 2).trans rfl; have hfz14_0 := blk_frozen BK113.out 0; have hfz14_1 := blk_frozen BK113.out 1; have hfz14_2 := blk_frozen BK113.out 2) | ((with_reducible refine gate_callee (f := 56) rfl ?_); refine goesL_ (some 9) rfl rfl Tryz.func56 (by kernel_rfl) rfl #[.string a0_0, .string a1_0] rfl (zq7) ?_; (with_reducible refine (plan_areApart.calls a0_0 a1_0 true _ A3.out).mono ?_); rintro e w15 ⟨rfl, hb⟩; refine ⟨_, rfl, ?_⟩; replace BK112 := Aside0.mk (blk_below (g := gb112) (o := .cells #[.string a0_0, .string a0_1, .int .i64 a0_2] 29 (0, 0)) (zq14) hb); replace BK113 := Aside0.mk (blk_below (g := gb113) (o := .cells #[.string a1_0, .string a1_1, .int .i64 a1_2] 29 (0, 0)) (zq16) hb); replace HB := Aside0.mk (below_step (zq17) hb); (try clear hb); (try clear hb2); (try clear hk); (try clear hi); have hcz16_0 : w15.cell? ⟨gb112, 0, none⟩ = some (.string a0_0) := (blk_cell BK112.out 0).trans rfl; have hcz16_1 : w15.cell? ⟨gb112, 1, none⟩ = some (.string a0_1) := (blk_cell BK112.out 1).trans rfl; have hcz16_2 : w15.cell? ⟨gb112, 2, none⟩ = some (.int .i64 a0_2) := (blk_cell BK112.out 2).trans rfl; have hfz16_0 := blk_frozen BK112.out 0; have hfz16_1 := blk_frozen BK112.out 1; have hfz16_2 := blk_frozen BK112.out 2; have hcz17_0 : w15.cell? ⟨gb113, 0, none⟩ = some (.string a1_0) := (blk_cell BK113.out 0).trans rfl; have hcz17_1 : w15.cell? ⟨gb113, 1, none⟩ = some (.string a1_1) := (blk_cell BK113.out 1).trans rfl; have hcz17_2 : w15.cell? ⟨gb113, 2, none⟩ = some (.int .i64 a1_2) := (blk_cell BK113.out 2).trans rfl; have hfz17_0 := blk_frozen BK113.out 0; have hfz17_1 := blk_frozen BK113.out 1; have hfz17_2 := blk_frozen BK113.out 2) | (go_at_call 56; (with_reducible refine (plan_areApart.calls a0_1 a1_1 true _ A5.out).mono ?_); rintro e w18 ⟨rfl, hb⟩; replace BK112 := Aside0.mk (blk_below (g := gb112) (o := .cells #[.string a0_0, .string a0_1, .int .i64 a0_2] 29 (0, 0)) (zq14) hb); replace BK113 := Aside0.mk (blk_below (g := gb113) (o := .cells #[.string a1_0, .string a1_1, .int .i64 a1_2] 29 (0, 0)) (zq16) hb); replace HB := Aside0.mk (below_step (zq17) hb); (try clear hb); (try clear hb2); (try clear hk); (try clear hi); have hcz19_0 : w18.cell? ⟨gb112, 0, none⟩ = some (.string a0_0) := (blk_cell BK112.out 0).trans rfl; have hcz19_1 : w18.cell? ⟨gb112, 1, none⟩ = some (.string a0_1) := (blk_cell BK112.out 1).trans rfl; have hcz19_2 : w18.cell? ⟨gb112, 2, none⟩ = some (.int .i64 a0_2) := (blk_cell BK112.out 2).trans rfl; have hfz19_0 := blk_frozen BK112.out 0; have hfz19_1 := blk_frozen BK112.out 1; have hfz19_2 := blk_frozen BK112.out 2; have hcz20_0 : w18.cell? ⟨gb113, 0, none⟩ = some (.string a1_0) := (blk_cell BK113.out 0).trans rfl; have hcz20_1 : w18.cell? ⟨gb113, 1, none⟩ = some (.string a1_1) := (blk_cell BK113.out 1).trans rfl; have hcz20_2 : w18.cell? ⟨gb113, 2, none⟩ = some (.int .i64 a1_2) := (blk_cell BK113.out 2).trans rfl; have hfz20_0 := blk_frozen BK113.out 0; have hfz20_1 := blk_frozen BK113.out 1; have hfz20_2 := blk_frozen BK113.out 2) | (go_at_call 56; (with_reducible refine (plan_areApart.calls a0_0 a1_1 true _ A7.out).mono ?_); rintro e w21 ⟨rfl, hb⟩; replace BK112 := Aside0.mk (blk_below (g := gb112) (o := .cells #[.string a0_0, .string a0_1, .int .i64 a0_2] 29 (0, 0)) (zq14) hb); replace BK113 := Aside0.mk (blk_below (g := gb113) (o := .cells #[.string a1_0, .string a1_1, .int .i64 a1_2] 29 (0, 0)) (zq16) hb); replace HB := Aside0.mk (below_step (zq17) hb); (try clear hb); (try clear hb2); (try clear hk); (try clear hi); have hcz22_0 : w21.cell? ⟨gb112, 0, none⟩ = some (.string a0_0) := (blk_cell BK112.out 0).trans rfl; have hcz22_1 : w21.cell? ⟨gb112, 1, none⟩ = some (.string a0_1) := (blk_cell BK112.out 1).trans rfl; have hcz22_2 : w21.cell? ⟨gb112, 2, none⟩ = some (.int .i64 a0_2) := (blk_cell BK112.out 2).trans rfl; have hfz22_0 := blk_frozen BK112.out 0; have hfz22_1 := blk_frozen BK112.out 1; have hfz22_2 := blk_frozen BK112.out 2; have hcz23_0 : w21.cell? ⟨gb113, 0, none⟩ = some (.string a1_0) := (blk_cell BK113.out 0).trans rfl; have hcz23_1 : w21.cell? ⟨gb113, 1, none⟩ = some (.string a1_1) := (blk_cell BK113.out 1).trans rfl; have hcz23_2 : w21.cell? ⟨gb113, 2, none⟩ = some (.int .i64 a1_2) := (blk_cell BK113.out 2).trans rfl; have hfz23_0 := blk_frozen BK113.out 0; have hfz23_1 := blk_frozen BK113.out 1; have hfz23_2 := blk_frozen BK113.out 2) | (go_at_call 56; (with_reducible refine (plan_areApart.calls a0_1 a1_0 t117 _ A9.out).mono ?_); rintro e w24 ⟨rfl, hb⟩; replace BK112 := Aside0.mk (blk_below (g := gb112) (o := .cells #[.string a0_0, .string a0_1, .int .i64 a0_2] 29 (0, 0)) (zq14) hb); replace BK113 := Aside0.mk (blk_below (g := gb113) (o := .cells #[.string a1_0, .string a1_1, .int .i64 a1_2] 29 (0, 0)) (zq16) hb); replace HB := Aside0.mk (below_step (zq17) hb); (try clear hb); (try clear hb2); (try clear hk); (try clear hi)))
 go_ret
 exact ⟨zq6, zq17⟩
end Go.Proofs.YtlmfoblgheepoaaGreatDoor.Pl
end
section
open Go.Proofs.YtlmfoblgheepoaaGreatDoor.Z
namespace Go.Proofs.YtlmfoblgheepoaaGreatDoor.Pl
open Go.RowKit Go.Proofs.YtlmfoblgheepoaaGreatDoorW.PrintWords Go.Proofs.YtlmfoblgheepoaaGreatDoorW.PrintLast Go.Proofs.YtlmfoblgheepoaaGreatDoorW.PrintMore
attribute [local go_sem] max2_int min2_int max_two min_two max_three min_three max_four min_four
set_option linter.unusedVariables false
set_option linter.unusedSimpArgs false
mutual
def api_Code.l0 : Nat → List (S29) → List (S29) → Int → Int → Option (Bool)
 | 0, _, _, _, _ => none
 | k + 1, x0, x9, x10, x11 => if x11 < x10 then (if 0 ≤ x11 then (if x11 < (x9.length : Int) then (if x11 ≤ (x0.length : Int) then ((some (x0.take (x11 : Int).toNat : List (S29))).bind fun y120 => (api_Code.l1 k x0 x9 x10 x11 y120 (y120.length : Int) 0 ((rd_T29 x9 x11).f0) ((rd_T29 x9 x11).f1) ((rd_T29 x9 x11).f2))) else (none)) else (none)) else (none)) else (some true)
def api_Code.l1 : Nat → List (S29) → List (S29) → Int → Int → List (S29) → Int → Int → ByteArray → ByteArray → Int → Option (Bool)
 | 0, _, _, _, _, _, _, _, _, _, _ => none
 | k + 1, x0, x9, x10, x11, x18, x19, x20, x120000, x120001, x120002 => if x20 < x19 then (if 0 ≤ x20 then (if x20 < (x18.length : Int) then ((plan_Valid_1.f x120000 x120001 x120002 ((rd_T29 x18 x20).f0) ((rd_T29 x18 x20).f1) ((rd_T29 x18 x20).f2)).bind fun t126 => (if t126 = true then (api_Code.l1 k x0 x9 x10 x11 x18 x19 (wrap64 (x20 + 1)) x120000 x120001 x120002) else (some false))) else (none)) else (none)) else (api_Code.l0 k x0 x9 x10 (wrap64 (x11 + 1)))
end
def api_Code.f (k : Nat) (l0 : List (S29)) (a1 : Unit) : Option (Bool) := api_Code.l0 k l0 l0 (l0.length : Int) 0
theorem api_Code.mono_l : ∀ k, (∀ y0 y1 y2 y3, LeO (api_Code.l0 k y0 y1 y2 y3) (api_Code.l0 (k + 1) y0 y1 y2 y3)) ∧ (∀ y0 y1 y2 y3 y4 y5 y6 y7 y8 y9, LeO (api_Code.l1 k y0 y1 y2 y3 y4 y5 y6 y7 y8 y9) (api_Code.l1 (k + 1) y0 y1 y2 y3 y4 y5 y6 y7 y8 y9))
 | 0 => ⟨fun _ _ _ _ r h => by simp [api_Code.l0] at h, fun _ _ _ _ _ _ _ _ _ _ r h => by simp [api_Code.l1] at h⟩
 | k + 1 => by
  obtain ⟨ih0, ih1⟩ := api_Code.mono_l k
  refine ⟨?_, ?_⟩
  ·intro y0 y1 y2 y3
   unfold api_Code.l0
   repeat' first
   | (with_reducible exact ih0 _ _ _ _)
   | (with_reducible exact ih1 _ _ _ _ _ _ _ _ _ _)
   | (with_reducible exact LeO.refl _)
   | (with_reducible exact LeO.none _)
   | (with_reducible refine LeO.ite ?_ ?_)
   | (with_reducible refine LeO.bind ?_ (fun _ => ?_))
   | exact ih0 _ _ _ _
   | exact ih1 _ _ _ _ _ _ _ _ _ _
   | exact LeO.none _
   | refine LeO.ite ?_ ?_
   | refine LeO.bind ?_ (fun _ => ?_)
  ·intro y0 y1 y2 y3 y4 y5 y6 y7 y8 y9
   unfold api_Code.l1
   repeat' first
   | (with_reducible exact ih0 _ _ _ _)
   | (with_reducible exact ih1 _ _ _ _ _ _ _ _ _ _)
   | (with_reducible exact LeO.refl _)
   | (with_reducible exact LeO.none _)
   | (with_reducible refine LeO.ite ?_ ?_)
   | (with_reducible refine LeO.bind ?_ (fun _ => ?_))
   | exact ih0 _ _ _ _
   | exact ih1 _ _ _ _ _ _ _ _ _ _
   | exact LeO.none _
   | refine LeO.ite ?_ ?_
   | refine LeO.bind ?_ (fun _ => ?_)
theorem api_Code.mono : ∀ a0 a1 k, LeO (api_Code.f k a0 a1) (api_Code.f (k + 1) a0 a1) := by
 intro a0 a1 k
 obtain ⟨ih0, ih1⟩ := api_Code.mono_l k
 unfold api_Code.f
 repeat' first
  | (with_reducible exact ih0 _ _ _ _)
  | (with_reducible exact ih1 _ _ _ _ _ _ _ _ _ _)
  | (with_reducible exact LeO.refl _)
  | (with_reducible exact LeO.none _)
  | (with_reducible refine LeO.ite ?_ ?_)
  | (with_reducible refine LeO.bind ?_ (fun _ => ?_))
  | exact ih0 _ _ _ _
  | exact ih1 _ _ _ _ _ _ _ _ _ _
  | exact LeO.none _
  | refine LeO.ite ?_ ?_
  | refine LeO.bind ?_ (fun _ => ?_)
set_option maxHeartbeats 8000000 in
set_option maxRecDepth 100000 in
theorem api_Code.calls (k : Nat) (A0 : Option Addr) (c0 : Nat) (l0 : List (S29)) (a1 : Unit) (r : Bool) (w : World) (hr0 : Kd.C k29 w A0 l0.length l0) (hc0 : l0.length ≤ c0) (h : api_Code.f k l0 a1 = some r) :
 Calls Tryz.prog 57 #[.slice A0 l0.length c0, (Value.func (.func 55) #[] #[])] w fun e w' => e = .returned (.bool r) ∧ Below w.heap.size w w' := by
 have hu29 := Tryz.underlying29
 have HR0 := Aside0.mk hr0
 have HC0 := Aside0.mk hc0
 clear hr0 hc0
 have HB := Aside0.mk (Below.refl w.heap.size w)
 have H : (api_Code.l0 k l0 l0 (l0.length : Int) 0) = some r := h
 clear h
 have H' := Aside0.mk H
 clear H
 go_enter Tryz.func57, Tryz.ntmps57
 go_wp2
 go_loopg [11] k (fun kq v11 w' => ∃ (x11_1 : Int), v11 = .int .i64 x11_1 ∧ Aside0 (api_Code.l0 kq l0 l0 (l0.length : Int) x11_1 = some r) ∧ Aside0 (kq ≤ k) ∧ Aside0 (Below w.heap.size w w'))
 case atStart => exact ⟨(0), (zq1), H', ⟨Nat.le_refl _⟩, ⟨zq5⟩⟩
 case round =>
  clear H'
  try clear p2
  obtain ⟨x11_1, rfl, HA, HK1, HB⟩ := hrel
  cases gk with
  | zero => exact absurd HA.out (by simp [api_Code.l0])
  | succ k1 =>
   have H := HA.out
   clear HA
   simp only [api_Code.l0] at H
   by_cases c3 : x11_1 < (l0.length : Int)
   rotate_left
   ·rw [if_neg c3] at H
    have c3b0 : decide (x11_1 < (l0.length : Int)) = false := decide_eq_false c3
    clear c3
    obtain rfl := Option.some.inj H
    go_wp2
    go_ret
    exact ⟨zq6, zq5⟩
   rw [if_pos c3] at H
   have c3b0 : decide (x11_1 < (l0.length : Int)) = true := decide_eq_true c3
   clear c3
   by_cases c4 : 0 ≤ x11_1
   rotate_left
   ·rw [if_neg c4] at H
    exact absurd H (by simp)
   rw [if_pos c4] at H
   have c4b0 : decide (0 ≤ x11_1) = true := decide_eq_true c4
   clear c4
   by_cases c5 : x11_1 < (l0.length : Int)
   rotate_left
   ·rw [if_neg c5] at H
    exact absurd H (by simp)
   rw [if_pos c5] at H
   have c5b0 : decide (x11_1 < (l0.length : Int)) = true := decide_eq_true c5
   clear c5
   have c6b0 := eq_true (of_decide_eq_true (zq18) : 0 ≤ x11_1)
   by_cases c7 : x11_1 ≤ (l0.length : Int)
   rotate_left
   ·rw [if_neg c7] at H
    exact absurd H (by simp)
   rw [if_pos c7] at H
   have c7b0 := eq_true c7
   have c7b1 : decide (x11_1 ≤ (l0.length : Int)) = true := decide_eq_true c7
   clear c7
   obtain ⟨y120, hy120⟩ : ∃ y_ : List (S29), y_ = (l0.take (x11_1 : Int).toNat) := ⟨_, rfl⟩
   replace H : (api_Code.l1 k1 l0 l0 (l0.length : Int) x11_1 y120 (y120.length : Int) 0 ((rd_T29 l0 x11_1).f0) ((rd_T29 l0 x11_1).f1) ((rd_T29 l0 x11_1).f2)) = some r := by first | (rw [hy120]; with_reducible exact H) | (have H2_ := (Option.bind_some _ _).symm.trans H; rw [hy120]; with_reducible exact H2_) | (have H2_ := (Option.bind_some _ _).symm.trans H; with_reducible exact H2_) | with_reducible exact H | (rw [hy120]; exact H) | exact H
   have Ny120 := Aside0.mk hy120
   clear hy120
   have H' := Aside0.mk H
   clear H
   have p118 : 0 ≤ (x11_1 : Int) := of_decide_eq_true (zq18)
   have q118 : x11_1 < (l0.length : Int) := of_decide_eq_true (zq18)
   obtain ⟨ad118, e118, hx118_0, hx118_1, hx118_2⟩ := at_T29 HR0.out x11_1 p118 q118
   cases e118
   replace hx118_0 := (HB.out.cell (World.block_lt_of_cell? w _ hx118_0)).trans hx118_0
   replace hx118_1 := (HB.out.cell (World.block_lt_of_cell? w _ hx118_1)).trans hx118_1
   replace hx118_2 := (HB.out.cell (World.block_lt_of_cell? w _ hx118_2)).trans hx118_2
   replace p118 := eq_true p118
   replace q118 := eq_true q118
   go_wp2_with (first | ((with_reducible refine gate_dst (N := 6) rfl ?_); refine box_event ?hg (N := 6) ?hd (cs := #[.string (⟨#[]⟩ : ByteArray), .string (⟨#[]⟩ : ByteArray), .int .i64 0]) (t := 29) ?hr ?_; (case hd => rfl); (case hg => rfl); (case hr => exact zq3); intro gb119 hg w8 hbox hb; have BK119 := Aside0.mk (hbox); have GW119 := Aside0.mk ((zq4 : w.heap.size ≤ gb119)); have GE119 := Aside0.mk ((zq4 : w.heap.size ≤ gb119)); replace HB := Aside0.mk (below_step (zq5) hb); clear hb hbox hg; have hcz9_0 : w8.cell? ⟨gb119, 0, none⟩ = some (.string (⟨#[]⟩ : ByteArray)) := (blk_cell BK119.out 0).trans rfl; have hcz9_1 : w8.cell? ⟨gb119, 1, none⟩ = some (.string (⟨#[]⟩ : ByteArray)) := (blk_cell BK119.out 1).trans rfl; have hcz9_2 : w8.cell? ⟨gb119, 2, none⟩ = some (.int .i64 0) := (blk_cell BK119.out 2).trans rfl; have hfz9_0 := blk_frozen BK119.out 0; have hfz9_1 := blk_frozen BK119.out 1; have hfz9_2 := blk_frozen BK119.out 2) | ((with_reducible refine gate_store (t := 29) (p := 6) rfl ?_); refine store_event (t := 29) (p := 6) (v := ?vo_w10) (w1 := (((w8.setCell ⟨gb119, 0, none⟩ (.string ((rd_T29 l0 x11_1).f0))).setCell ⟨gb119, 1, none⟩ (.string ((rd_T29 l0 x11_1).f1))).setCell ⟨gb119, 2, none⟩ (.int .i64 ((rd_T29 l0 x11_1).f2)))) ?hg ?ho ?hn ?hr ?_; (case ho => rfl); (case hg => rfl); (case hn => rfl); (case hr => exact zq3); intro w10 hw; replace BK119 : Aside0 (w10.heap[gb119]? = some (.cells #[.string ((rd_T29 l0 x11_1).f0), .string ((rd_T29 l0 x11_1).f1), .int .i64 ((rd_T29 l0 x11_1).f2)] 29 (0, 0))) := ⟨(by rw [hw]; exact (by (with_reducible repeat (first | refine blk_drewN ?_ _ | refine blk_drew ?_ | refine blk_alloc ?_ _)); refine blk_put (cs := #[.string ((rd_T29 l0 x11_1).f0), .string ((rd_T29 l0 x11_1).f1), .int .i64 0]) ?_ 2 _ rfl; (with_reducible repeat (first | refine blk_drewN ?_ _ | refine blk_drew ?_ | refine blk_alloc ?_ _)); refine blk_put (cs := #[.string ((rd_T29 l0 x11_1).f0), .string (⟨#[]⟩ : ByteArray), .int .i64 0]) ?_ 1 _ rfl; (with_reducible repeat (first | refine blk_drewN ?_ _ | refine blk_drew ?_ | refine blk_alloc ?_ _)); refine blk_put (cs := #[.string (⟨#[]⟩ : ByteArray), .string (⟨#[]⟩ : ByteArray), .int .i64 0]) ?_ 0 _ rfl; (with_reducible repeat (first | refine blk_drewN ?_ _ | refine blk_drew ?_ | refine blk_alloc ?_ _)); exact BK119.out))⟩; replace HB : Aside0 (Below w.heap.size w w10) := ⟨(by rw [hw]; exact (zq19))⟩; clear hw; have q11 : (x11_1 : Int) ≤ ((l0.length : Int) : Int) := of_decide_eq_true (zq18); obtain ⟨i011, hi011, _, hsz11, _⟩ := info_parts info29; have hroom11 : l0.length ≤ c0 := HC0.out; have hC11 : Kd.C k29 _ (some ad118) l0.length l0 := HR0.out; have hcut11 := cut_to (P := Tryz.prog) 24 29 .i64 Tryz.underlying24 hi011 (some ad118) l0.length c0 x11_1 (of_decide_eq_true (zq18)) q11 hroom11; have hr11 := Kd.C_take (m := (x11_1 : Int).toNat) hC11 (by omega); have hy11 : y120.length = (x11_1 : Int).toNat := (by rw [Ny120.out, List.length_take]; omega); rw [← Ny120.out] at hr11; rw [← hy11] at hcut11; have HR123 := Aside0.mk hr11; have HC123 := Aside0.mk (show y120.length ≤ c0 from by omega); clear hr11 hC11 hroom11 hi011 hsz11; have KY11 := Aside0.mk hy11; clear hy11; replace q11 := eq_true q11))
   go_loopg [20] k1 (fun kq v20 w' => ∃ (x20_2 : Int), v20 = .int .i64 x20_2 ∧ Aside0 (api_Code.l1 kq l0 l0 (l0.length : Int) x11_1 y120 (y120.length : Int) x20_2 ((rd_T29 l0 x11_1).f0) ((rd_T29 l0 x11_1).f1) ((rd_T29 l0 x11_1).f2) = some r) ∧ Aside0 (kq ≤ k1) ∧ Aside0 (w'.heap[gb119]? = some (.cells #[.string ((rd_T29 l0 x11_1).f0), .string ((rd_T29 l0 x11_1).f1), .int .i64 ((rd_T29 l0 x11_1).f2)] 29 (0, 0))) ∧ Aside0 (Below w.heap.size w w'))
   case atStart => exact ⟨(0), (zq1), H', ⟨Nat.le_refl _⟩, ⟨zq22⟩, ⟨zq19⟩⟩
   case round =>
    clear H'
    try clear p1
    try clear q1
    try clear hx1
    try clear p2
    try clear c3
    try clear c3b0
    try clear c4
    try clear c4b0
    try clear c5
    try clear c5b0
    try clear c6
    try clear c6b0
    try clear c7
    try clear c7b0
    try clear c7b1
    try clear p11
    try clear q11
    try clear hx11
    try clear hcz9_0
    try clear hcz9_1
    try clear hcz9_2
    try clear hfz9_0
    try clear hfz9_1
    try clear hfz9_2
    try clear hx118_0
    try clear hx118_1
    try clear hx118_2
    try clear p118
    try clear p2
    try clear q11
    try clear q118
    obtain ⟨x20_2, rfl, HA, HK2, BK119, HB⟩ := hrel
    cases gk with
    | zero => exact absurd HA.out (by simp [api_Code.l1])
    | succ k2 =>
     have H := HA.out
     clear HA
     simp only [api_Code.l1] at H
     by_cases c12 : x20_2 < (y120.length : Int)
     rotate_left
     ·rw [if_neg c12] at H
      have c12b0 : decide (x20_2 < (y120.length : Int)) = false := decide_eq_false c12
      clear c12
      have H' := Aside0.mk H
      clear H
      go_wp2
      go_roundg k2
      case measure => have := HK1.out; have := HK2.out; omega
      case rel => exact ⟨(wrap64 (x11_1 + 1)), (zq1), H', ⟨zq27⟩, ⟨zq19⟩⟩
     rw [if_pos c12] at H
     have c12b0 : decide (x20_2 < (y120.length : Int)) = true := decide_eq_true c12
     clear c12
     by_cases c13 : 0 ≤ x20_2
     rotate_left
     ·rw [if_neg c13] at H
      exact absurd H (by simp)
     rw [if_pos c13] at H
     have c13b0 : decide (0 ≤ x20_2) = true := decide_eq_true c13
     clear c13
     by_cases c14 : x20_2 < (y120.length : Int)
     rotate_left
     ·rw [if_neg c14] at H
      exact absurd H (by simp)
     rw [if_pos c14] at H
     have c14b0 : decide (x20_2 < (y120.length : Int)) = true := decide_eq_true c14
     clear c14
     replace H := Option.bind_eq_some_iff.mp H
     obtain ⟨t126, A150, H⟩ := H
     try dsimp only at H
     have A15 := Aside0.mk A150
     clear A150
     by_cases c16 : t126 = true
     rotate_left
     ·replace c16 := Bool.eq_false_iff.mpr c16
      subst c16
      rw [if_neg (show ¬ (false = true) by decide)] at H
      obtain rfl := Option.some.inj H
      have p124 : 0 ≤ (x20_2 : Int) := of_decide_eq_true (zq18)
      have q124 : x20_2 < (y120.length : Int) := of_decide_eq_true (zq18)
      obtain ⟨ad124, e124, hx124_0, hx124_1, hx124_2⟩ := at_T29 HR123.out x20_2 p124 q124
      obtain rfl : ad118 = ad124 := (by injection e124)
      replace hx124_0 := (HB.out.cell (World.block_lt_of_cell? w _ hx124_0)).trans hx124_0
      replace hx124_1 := (HB.out.cell (World.block_lt_of_cell? w _ hx124_1)).trans hx124_1
      replace hx124_2 := (HB.out.cell (World.block_lt_of_cell? w _ hx124_2)).trans hx124_2
      replace p124 := eq_true p124
      replace q124 := eq_true q124
      go_wp2_with (first | ((with_reducible refine gate_dst (N := 8) rfl ?_); refine box_event ?hg (N := 8) ?hd (cs := #[.string (⟨#[]⟩ : ByteArray), .string (⟨#[]⟩ : ByteArray), .int .i64 0]) (t := 29) ?hr ?_; (case hd => rfl); (case hg => rfl); (case hr => exact zq3); intro gb125 hg w22 hbox hb; have BK125 := Aside0.mk (hbox); have GW125 := Aside0.mk ((zq20 : w.heap.size ≤ gb125)); have GE125 := Aside0.mk ((zq20 : w.heap.size ≤ gb125)); replace HB := Aside0.mk (below_step (zq19) hb); have NB119_125 := Aside0.mk ((zq21 : gb119 ≠ gb125)); have NB125_119 := Aside0.mk ((zq23 : gb125 ≠ gb119)); replace BK119 := Aside0.mk (blk_below (g := gb119) (o := .cells #[.string ((rd_T29 l0 x11_1).f0), .string ((rd_T29 l0 x11_1).f1), .int .i64 ((rd_T29 l0 x11_1).f2)] 29 (0, 0)) (zq22) hb); clear hb hbox hg; have hnb23 := NB125_119.out; have hnc23 := NB119_125.out; have hcz24_0 : w22.cell? ⟨gb125, 0, none⟩ = some (.string (⟨#[]⟩ : ByteArray)) := (blk_cell BK125.out 0).trans rfl; have hcz24_1 : w22.cell? ⟨gb125, 1, none⟩ = some (.string (⟨#[]⟩ : ByteArray)) := (blk_cell BK125.out 1).trans rfl; have hcz24_2 : w22.cell? ⟨gb125, 2, none⟩ = some (.int .i64 0) := (blk_cell BK125.out 2).trans rfl; have hfz24_0 := blk_frozen BK125.out 0; have hfz24_1 := blk_frozen BK125.out 1; have hfz24_2 := blk_frozen BK125.out 2; have hcz25_0 : w22.cell? ⟨gb119, 0, none⟩ = some (.string ((rd_T29 l0 x11_1).f0)) := (blk_cell BK119.out 0).trans rfl; have hcz25_1 : w22.cell? ⟨gb119, 1, none⟩ = some (.string ((rd_T29 l0 x11_1).f1)) := (blk_cell BK119.out 1).trans rfl; have hcz25_2 : w22.cell? ⟨gb119, 2, none⟩ = some (.int .i64 ((rd_T29 l0 x11_1).f2)) := (blk_cell BK119.out 2).trans rfl; have hfz25_0 := blk_frozen BK119.out 0; have hfz25_1 := blk_frozen BK119.out 1; have hfz25_2 := blk_frozen BK119.out 2) | (go_at_call 55; (with_reducible refine (plan_Valid_1.calls ((rd_T29 l0 x11_1).f0) ((rd_T29 l0 x11_1).f1) ((rd_T29 l0 x11_1).f2) ((rd_T29 y120 x20_2).f0) ((rd_T29 y120 x20_2).f1) ((rd_T29 y120 x20_2).f2) false _ A15.out).mono ?_); rintro e w26 ⟨rfl, hb⟩; replace BK119 := Aside0.mk (blk_below (g := gb119) (o := .cells #[.string ((rd_T29 l0 x11_1).f0), .string ((rd_T29 l0 x11_1).f1), .int .i64 ((rd_T29 l0 x11_1).f2)] 29 (0, 0)) (zq24) hb); replace BK125 := Aside0.mk (blk_below (g := gb125) (o := .cells #[.string ((rd_T29 y120 x20_2).f0), .string ((rd_T29 y120 x20_2).f1), .int .i64 ((rd_T29 y120 x20_2).f2)] 29 (0, 0)) (zq25) hb); replace HB := Aside0.mk (below_step (zq26) hb); (try clear hb); (try clear hb2); (try clear hk); (try clear hi)))
      go_ret
      exact ⟨zq6, zq26⟩
     subst c16
     rw [if_pos rfl] at H
     have H' := Aside0.mk H
     clear H
     have p124 : 0 ≤ (x20_2 : Int) := of_decide_eq_true (zq18)
     have q124 : x20_2 < (y120.length : Int) := of_decide_eq_true (zq18)
     obtain ⟨ad124, e124, hx124_0, hx124_1, hx124_2⟩ := at_T29 HR123.out x20_2 p124 q124
     obtain rfl : ad118 = ad124 := (by injection e124)
     replace hx124_0 := (HB.out.cell (World.block_lt_of_cell? w _ hx124_0)).trans hx124_0
     replace hx124_1 := (HB.out.cell (World.block_lt_of_cell? w _ hx124_1)).trans hx124_1
     replace hx124_2 := (HB.out.cell (World.block_lt_of_cell? w _ hx124_2)).trans hx124_2
     replace p124 := eq_true p124
     replace q124 := eq_true q124
     go_wp2_with (first | ((with_reducible refine gate_dst (N := 8) rfl ?_); refine box_event ?hg (N := 8) ?hd (cs := #[.string (⟨#[]⟩ : ByteArray), .string (⟨#[]⟩ : ByteArray), .int .i64 0]) (t := 29) ?hr ?_; (case hd => rfl); (case hg => rfl); (case hr => exact zq3); intro gb125 hg w17 hbox hb; have BK125 := Aside0.mk (hbox); have GW125 := Aside0.mk ((zq20 : w.heap.size ≤ gb125)); have GE125 := Aside0.mk ((zq20 : w.heap.size ≤ gb125)); replace HB := Aside0.mk (below_step (zq19) hb); have NB119_125 := Aside0.mk ((zq21 : gb119 ≠ gb125)); have NB125_119 := Aside0.mk ((zq23 : gb125 ≠ gb119)); replace BK119 := Aside0.mk (blk_below (g := gb119) (o := .cells #[.string ((rd_T29 l0 x11_1).f0), .string ((rd_T29 l0 x11_1).f1), .int .i64 ((rd_T29 l0 x11_1).f2)] 29 (0, 0)) (zq22) hb); clear hb hbox hg; have hnb18 := NB125_119.out; have hnc18 := NB119_125.out; have hcz19_0 : w17.cell? ⟨gb125, 0, none⟩ = some (.string (⟨#[]⟩ : ByteArray)) := (blk_cell BK125.out 0).trans rfl; have hcz19_1 : w17.cell? ⟨gb125, 1, none⟩ = some (.string (⟨#[]⟩ : ByteArray)) := (blk_cell BK125.out 1).trans rfl; have hcz19_2 : w17.cell? ⟨gb125, 2, none⟩ = some (.int .i64 0) := (blk_cell BK125.out 2).trans rfl; have hfz19_0 := blk_frozen BK125.out 0; have hfz19_1 := blk_frozen BK125.out 1; have hfz19_2 := blk_frozen BK125.out 2; have hcz20_0 : w17.cell? ⟨gb119, 0, none⟩ = some (.string ((rd_T29 l0 x11_1).f0)) := (blk_cell BK119.out 0).trans rfl; have hcz20_1 : w17.cell? ⟨gb119, 1, none⟩ = some (.string ((rd_T29 l0 x11_1).f1)) := (blk_cell BK119.out 1).trans rfl; have hcz20_2 : w17.cell? ⟨gb119, 2, none⟩ = some (.int .i64 ((rd_T29 l0 x11_1).f2)) := (blk_cell BK119.out 2).trans rfl; have hfz20_0 := blk_frozen BK119.out 0; have hfz20_1 := blk_frozen BK119.out 1; have hfz20_2 := blk_frozen BK119.out 2) | (go_at_call 55; (with_reducible refine (plan_Valid_1.calls ((rd_T29 l0 x11_1).f0) ((rd_T29 l0 x11_1).f1) ((rd_T29 l0 x11_1).f2) ((rd_T29 y120 x20_2).f0) ((rd_T29 y120 x20_2).f1) ((rd_T29 y120 x20_2).f2) true _ A15.out).mono ?_); rintro e w21 ⟨rfl, hb⟩; replace BK119 := Aside0.mk (blk_below (g := gb119) (o := .cells #[.string ((rd_T29 l0 x11_1).f0), .string ((rd_T29 l0 x11_1).f1), .int .i64 ((rd_T29 l0 x11_1).f2)] 29 (0, 0)) (zq24) hb); replace BK125 := Aside0.mk (blk_below (g := gb125) (o := .cells #[.string ((rd_T29 y120 x20_2).f0), .string ((rd_T29 y120 x20_2).f1), .int .i64 ((rd_T29 y120 x20_2).f2)] 29 (0, 0)) (zq25) hb); replace HB := Aside0.mk (below_step (zq26) hb); (try clear hb); (try clear hb2); (try clear hk); (try clear hi)))
     go_roundg k2
     case measure => have := HK1.out; have := HK2.out; omega
     case rel => exact ⟨(wrap64 (x20_2 + 1)), (zq1), H', ⟨zq27⟩, ⟨zq22⟩, ⟨zq26⟩⟩
def plan_Valid.l0 : Nat → List (S29) → List (S29) → Int → Int → Option (Bool)
 | 0, _, _, _, _ => none
 | k + 1, x0, x6, x7, x8 => if x8 < x7 then (if 0 ≤ x8 then (if x8 < (x6.length : Int) then ((plan_isCode.f k ((rd_T29 x6 x8).f0) ((rd_T29 x6 x8).f1) ((rd_T29 x6 x8).f2)).bind fun t129 => (if t129 = true then (plan_Valid.l0 k x0 x6 x7 (wrap64 (x8 + 1))) else (some false))) else (none)) else (none)) else (if (x0.length : Int) ≤ 20 then ((api_Code.f k x0 ()).bind fun t130 => (some t130)) else (some false))
def plan_Valid.f (k : Nat) (l0 : List (S29)) : Option (Bool) := plan_Valid.l0 k l0 l0 (l0.length : Int) 0
theorem plan_Valid.mono_l : ∀ k, (∀ y0 y1 y2 y3, LeO (plan_Valid.l0 k y0 y1 y2 y3) (plan_Valid.l0 (k + 1) y0 y1 y2 y3))
 | 0 => fun _ _ _ _ r h => by simp [plan_Valid.l0] at h
 | k + 1 => by
  have ih0 := plan_Valid.mono_l k
  ·intro y0 y1 y2 y3
   unfold plan_Valid.l0
   repeat' first
   | (with_reducible exact ih0 _ _ _ _)
   | (with_reducible exact api_Code.mono _ _ _)
   | (with_reducible exact plan_isCode.mono _ _ _ _)
   | (with_reducible exact LeO.refl _)
   | (with_reducible exact LeO.none _)
   | (with_reducible refine LeO.ite ?_ ?_)
   | (with_reducible refine LeO.bind ?_ (fun _ => ?_))
   | exact ih0 _ _ _ _
   | exact api_Code.mono _ _ _
   | exact plan_isCode.mono _ _ _ _
   | exact LeO.none _
   | refine LeO.ite ?_ ?_
   | refine LeO.bind ?_ (fun _ => ?_)
theorem plan_Valid.mono : ∀ a0 k, LeO (plan_Valid.f k a0) (plan_Valid.f (k + 1) a0) := by
 intro a0 k
 have ih0 := plan_Valid.mono_l k
 unfold plan_Valid.f
 repeat' first
  | (with_reducible exact ih0 _ _ _ _)
  | (with_reducible exact api_Code.mono _ _ _)
  | (with_reducible exact plan_isCode.mono _ _ _ _)
  | (with_reducible exact LeO.refl _)
  | (with_reducible exact LeO.none _)
  | (with_reducible refine LeO.ite ?_ ?_)
  | (with_reducible refine LeO.bind ?_ (fun _ => ?_))
  | exact ih0 _ _ _ _
  | exact api_Code.mono _ _ _
  | exact plan_isCode.mono _ _ _ _
  | exact LeO.none _
  | refine LeO.ite ?_ ?_
  | refine LeO.bind ?_ (fun _ => ?_)
set_option maxHeartbeats 8000000 in
set_option maxRecDepth 100000 in
theorem plan_Valid.calls (k : Nat) (A0 : Option Addr) (c0 : Nat) (l0 : List (S29)) (r : Bool) (w : World) (hr0 : Kd.C k29 w A0 l0.length l0) (hc0 : l0.length ≤ c0) (h : plan_Valid.f k l0 = some r) :
 Calls Tryz.prog 25 #[.slice A0 l0.length c0] w fun e w' => e = .returned (.bool r) ∧ Below w.heap.size w w' := by
 have hu29 := Tryz.underlying29
 have HR0 := Aside0.mk hr0
 have HC0 := Aside0.mk hc0
 clear hr0 hc0
 have HB := Aside0.mk (Below.refl w.heap.size w)
 have H : (plan_Valid.l0 k l0 l0 (l0.length : Int) 0) = some r := h
 clear h
 have H' := Aside0.mk H
 clear H
 go_enter Tryz.func25, Tryz.ntmps25
 go_wp2
 go_loopg [8] k (fun kq v8 w' => ∃ (x8_1 : Int), v8 = .int .i64 x8_1 ∧ Aside0 (plan_Valid.l0 kq l0 l0 (l0.length : Int) x8_1 = some r) ∧ Aside0 (kq ≤ k) ∧ Aside0 (Below w.heap.size w w'))
 case atStart => exact ⟨(0), (zq1), H', ⟨Nat.le_refl _⟩, ⟨zq5⟩⟩
 case round =>
  clear H'
  obtain ⟨x8_1, rfl, HA, HK1, HB⟩ := hrel
  cases gk with
  | zero => exact absurd HA.out (by simp [plan_Valid.l0])
  | succ k1 =>
   have H := HA.out
   clear HA
   simp only [plan_Valid.l0] at H
   by_cases c2 : x8_1 < (l0.length : Int)
   rotate_left
   ·rw [if_neg c2] at H
    have c2b0 : decide (x8_1 < (l0.length : Int)) = false := decide_eq_false c2
    clear c2
    by_cases c13 : (l0.length : Int) ≤ 20
    rotate_left
    ·rw [if_neg c13] at H
     have c13b0 : decide ((l0.length : Int) ≤ 20) = false := decide_eq_false c13
     have c13b1 : decide (l0.length ≤ 20) = false := decide_eq_false (by omega)
     clear c13
     obtain rfl := Option.some.inj H
     go_wp2
     go_ret
     exact ⟨zq6, zq5⟩
    rw [if_pos c13] at H
    have c13b0 : decide ((l0.length : Int) ≤ 20) = true := decide_eq_true c13
    have c13b1 : decide (l0.length ≤ 20) = true := decide_eq_true (by omega)
    clear c13
    replace H := Option.bind_eq_some_iff.mp H
    obtain ⟨t130, A140, H⟩ := H
    try dsimp only at H
    have A14 := Aside0.mk A140
    clear A140
    obtain rfl := Option.some.inj H
    go_wp2_with (first | (go_at_call 57; (with_reducible refine (api_Code.calls k1 _ _ l0 () t130 _ ?side1 ?side2 A14.out).mono ?_); (case side1 => exact zq28); (case side2 => exact zq29); rintro e w15 ⟨rfl, hb⟩; replace HB := Aside0.mk (below_step (zq5) hb); (try clear hb); (try clear hb2); (try clear hk); (try clear hi)))
    go_ret
    exact ⟨zq6, zq5⟩
   rw [if_pos c2] at H
   have c2b0 : decide (x8_1 < (l0.length : Int)) = true := decide_eq_true c2
   clear c2
   by_cases c3 : 0 ≤ x8_1
   rotate_left
   ·rw [if_neg c3] at H
    exact absurd H (by simp)
   rw [if_pos c3] at H
   have c3b0 : decide (0 ≤ x8_1) = true := decide_eq_true c3
   clear c3
   by_cases c4 : x8_1 < (l0.length : Int)
   rotate_left
   ·rw [if_neg c4] at H
    exact absurd H (by simp)
   rw [if_pos c4] at H
   have c4b0 : decide (x8_1 < (l0.length : Int)) = true := decide_eq_true c4
   clear c4
   replace H := Option.bind_eq_some_iff.mp H
   obtain ⟨t129, A50, H⟩ := H
   try dsimp only at H
   have A5 := Aside0.mk A50
   clear A50
   by_cases c6 : t129 = true
   ·subst c6
    rw [if_pos rfl] at H
    have H' := Aside0.mk H
    clear H
    have p127 : 0 ≤ (x8_1 : Int) := of_decide_eq_true (zq18)
    have q127 : x8_1 < (l0.length : Int) := of_decide_eq_true (zq18)
    obtain ⟨ad127, e127, hx127_0, hx127_1, hx127_2⟩ := at_T29 HR0.out x8_1 p127 q127
    cases e127
    replace hx127_0 := (HB.out.cell (World.block_lt_of_cell? w _ hx127_0)).trans hx127_0
    replace hx127_1 := (HB.out.cell (World.block_lt_of_cell? w _ hx127_1)).trans hx127_1
    replace hx127_2 := (HB.out.cell (World.block_lt_of_cell? w _ hx127_2)).trans hx127_2
    replace p127 := eq_true p127
    replace q127 := eq_true q127
    go_wp2_with (first | ((with_reducible refine gate_dst (N := 4) rfl ?_); refine box_event ?hg (N := 4) ?hd (cs := #[.string (⟨#[]⟩ : ByteArray), .string (⟨#[]⟩ : ByteArray), .int .i64 0]) (t := 29) ?hr ?_; (case hd => rfl); (case hg => rfl); (case hr => exact zq3); intro gb128 hg w7 hbox hb; have BK128 := Aside0.mk (hbox); have GW128 := Aside0.mk ((zq4 : w.heap.size ≤ gb128)); have GE128 := Aside0.mk ((zq4 : w.heap.size ≤ gb128)); replace HB := Aside0.mk (below_step (zq5) hb); clear hb hbox hg; have hcz8_0 : w7.cell? ⟨gb128, 0, none⟩ = some (.string (⟨#[]⟩ : ByteArray)) := (blk_cell BK128.out 0).trans rfl; have hcz8_1 : w7.cell? ⟨gb128, 1, none⟩ = some (.string (⟨#[]⟩ : ByteArray)) := (blk_cell BK128.out 1).trans rfl; have hcz8_2 : w7.cell? ⟨gb128, 2, none⟩ = some (.int .i64 0) := (blk_cell BK128.out 2).trans rfl; have hfz8_0 := blk_frozen BK128.out 0; have hfz8_1 := blk_frozen BK128.out 1; have hfz8_2 := blk_frozen BK128.out 2) | ((with_reducible refine gate_callee (f := 54) rfl ?_); refine goesL_ (some 13) rfl rfl Tryz.func54 (by kernel_rfl) rfl #[.agg #[.string ((rd_T29 l0 x8_1).f0), .string ((rd_T29 l0 x8_1).f1), .int .i64 ((rd_T29 l0 x8_1).f2)]] rfl (zq7) ?_; (with_reducible refine (plan_isCode.calls k1 ((rd_T29 l0 x8_1).f0) ((rd_T29 l0 x8_1).f1) ((rd_T29 l0 x8_1).f2) true _ A5.out).mono ?_); rintro e w9 ⟨rfl, hb⟩; refine ⟨_, rfl, ?_⟩; replace BK128 := Aside0.mk (blk_below (g := gb128) (o := .cells #[.string ((rd_T29 l0 x8_1).f0), .string ((rd_T29 l0 x8_1).f1), .int .i64 ((rd_T29 l0 x8_1).f2)] 29 (0, 0)) (zq30) hb); replace HB := Aside0.mk (below_step (zq31) hb); (try clear hb); (try clear hb2); (try clear hk); (try clear hi)))
    go_roundg k1
    case measure => have := HK1.out; omega
    case rel => exact ⟨(wrap64 (x8_1 + 1)), (zq1), H', ⟨zq32⟩, ⟨zq31⟩⟩
   replace c6 := Bool.eq_false_iff.mpr c6
   subst c6
   rw [if_neg (show ¬ (false = true) by decide)] at H
   obtain rfl := Option.some.inj H
   have p127 : 0 ≤ (x8_1 : Int) := of_decide_eq_true (zq18)
   have q127 : x8_1 < (l0.length : Int) := of_decide_eq_true (zq18)
   obtain ⟨ad127, e127, hx127_0, hx127_1, hx127_2⟩ := at_T29 HR0.out x8_1 p127 q127
   cases e127
   replace hx127_0 := (HB.out.cell (World.block_lt_of_cell? w _ hx127_0)).trans hx127_0
   replace hx127_1 := (HB.out.cell (World.block_lt_of_cell? w _ hx127_1)).trans hx127_1
   replace hx127_2 := (HB.out.cell (World.block_lt_of_cell? w _ hx127_2)).trans hx127_2
   replace p127 := eq_true p127
   replace q127 := eq_true q127
   go_wp2_with (first | ((with_reducible refine gate_dst (N := 4) rfl ?_); refine box_event ?hg (N := 4) ?hd (cs := #[.string (⟨#[]⟩ : ByteArray), .string (⟨#[]⟩ : ByteArray), .int .i64 0]) (t := 29) ?hr ?_; (case hd => rfl); (case hg => rfl); (case hr => exact zq3); intro gb128 hg w10 hbox hb; have BK128 := Aside0.mk (hbox); have GW128 := Aside0.mk ((zq4 : w.heap.size ≤ gb128)); have GE128 := Aside0.mk ((zq4 : w.heap.size ≤ gb128)); replace HB := Aside0.mk (below_step (zq5) hb); clear hb hbox hg; have hcz11_0 : w10.cell? ⟨gb128, 0, none⟩ = some (.string (⟨#[]⟩ : ByteArray)) := (blk_cell BK128.out 0).trans rfl; have hcz11_1 : w10.cell? ⟨gb128, 1, none⟩ = some (.string (⟨#[]⟩ : ByteArray)) := (blk_cell BK128.out 1).trans rfl; have hcz11_2 : w10.cell? ⟨gb128, 2, none⟩ = some (.int .i64 0) := (blk_cell BK128.out 2).trans rfl; have hfz11_0 := blk_frozen BK128.out 0; have hfz11_1 := blk_frozen BK128.out 1; have hfz11_2 := blk_frozen BK128.out 2) | ((with_reducible refine gate_callee (f := 54) rfl ?_); refine goesL_ (some 13) rfl rfl Tryz.func54 (by kernel_rfl) rfl #[.agg #[.string ((rd_T29 l0 x8_1).f0), .string ((rd_T29 l0 x8_1).f1), .int .i64 ((rd_T29 l0 x8_1).f2)]] rfl (zq7) ?_; (with_reducible refine (plan_isCode.calls k1 ((rd_T29 l0 x8_1).f0) ((rd_T29 l0 x8_1).f1) ((rd_T29 l0 x8_1).f2) false _ A5.out).mono ?_); rintro e w12 ⟨rfl, hb⟩; refine ⟨_, rfl, ?_⟩; replace BK128 := Aside0.mk (blk_below (g := gb128) (o := .cells #[.string ((rd_T29 l0 x8_1).f0), .string ((rd_T29 l0 x8_1).f1), .int .i64 ((rd_T29 l0 x8_1).f2)] 29 (0, 0)) (zq30) hb); replace HB := Aside0.mk (below_step (zq31) hb); (try clear hb); (try clear hb2); (try clear hk); (try clear hi)))
   go_ret
   exact ⟨zq6, zq31⟩
def plan_isPhase.f (a0 : Int) : Option (Bool) := (plan_isWithin.f a0 1 3).bind fun t131 => (some t131)
set_option maxHeartbeats 8000000 in
set_option maxRecDepth 100000 in
theorem plan_isPhase.calls (a0 : Int) (r : Bool) (w : World) (h : plan_isPhase.f a0 = some r) :
 Calls Tryz.prog 35 #[.int .i64 a0] w fun e w' => e = .returned (.bool r) ∧ Drawn0 w w' := by
 have H : ((plan_isWithin.f a0 1 3).bind fun t131 => (some t131)) = some r := h
 clear h
 replace H := Option.bind_eq_some_iff.mp H
 obtain ⟨t131, A20, H⟩ := H
 try dsimp only at H
 have A2 := Aside0.mk A20
 clear A20
 obtain rfl := Option.some.inj H
 go_enter Tryz.func35, Tryz.ntmps35
 go_wp2_with (first | ((with_reducible refine gate_callee (f := 36) rfl ?_); refine goesL_ (some 4) rfl rfl Tryz.func36 (by kernel_rfl) rfl #[.int .i64 a0, .int .i64 1, .int .i64 3] rfl (zq7) ?_; (with_reducible refine (plan_isWithin.calls a0 1 3 t131 _ A2.out).mono ?_); rintro e w' ⟨rfl, ⟨nd, rfl⟩⟩; refine ⟨_, rfl, ?_⟩))
 go_ret
 exact ⟨zq1, zq2⟩
end Go.Proofs.YtlmfoblgheepoaaGreatDoor.Pl
end
section
open Go.Proofs.YtlmfoblgheepoaaGreatDoor.Z
namespace Go.Proofs.YtlmfoblgheepoaaGreatDoor.Pl
open Go.RowKit Go.Proofs.YtlmfoblgheepoaaGreatDoorW.PrintWords Go.Proofs.YtlmfoblgheepoaaGreatDoorW.PrintLast Go.Proofs.YtlmfoblgheepoaaGreatDoorW.PrintMore
attribute [local go_sem] max2_int min2_int max_two min_two max_three min_three max_four min_four
set_option linter.unusedVariables false
set_option linter.unusedSimpArgs false
def strconv_Itoa.f (n : Int) : Option ByteArray :=
 if -9223372036854775808 ≤ n ∧ n ≤ 9223372036854775807 then some ⟨(Lib.itoa n).toArray⟩ else none
theorem strconv_Itoa.calls (n : Int) (r : ByteArray) (w : World) (hG : Glb w) (h : strconv_Itoa.f n = some r) :
 Calls Tryz.prog 60 #[.int .i64 n] w fun e w' => e = .returned (.string r) ∧ Below w.heap.size w w' := by
 unfold strconv_Itoa.f at h
 split at h
 ·rename_i hc
  obtain rfl := Option.some.inj h
  exact (Tryz.strconv_Itoa n hc.1 hc.2 w hG).mono fun e w' ⟨he, k, os, hw⟩ => ⟨he, by rw [hw]; exact below_growN w k os⟩
 ·cases h
end Go.Proofs.YtlmfoblgheepoaaGreatDoor.Pl
end
section
open Go.Proofs.YtlmfoblgheepoaaGreatDoor.Z
namespace Go.Proofs.YtlmfoblgheepoaaGreatDoor.Pl
open Go.RowKit Go.Proofs.YtlmfoblgheepoaaGreatDoorW.PrintWords Go.Proofs.YtlmfoblgheepoaaGreatDoorW.PrintLast Go.Proofs.YtlmfoblgheepoaaGreatDoorW.PrintMore
attribute [local go_sem] max2_int min2_int max_two min_two max_three min_three max_four min_four
set_option linter.unusedVariables false
set_option linter.unusedSimpArgs false
def strings_Repeat.f (s : ByteArray) (c : Int) : Option ByteArray :=
 if 0 ≤ c ∧ c ≤ 9223372036854775807 ∧ s.size * c.toNat ≤ 140737488355328 then some ⟨(Lib.repeatL s.data.toList c.toNat).toArray⟩ else none
theorem strings_Repeat.calls (s : ByteArray) (c : Int) (r : ByteArray) (w : World) (h : strings_Repeat.f s c = some r) :
 Calls Tryz.prog 61 #[.string s, .int .i64 c] w fun e w' => e = .returned (.string r) ∧ Below w.heap.size w w' := by
 unfold strings_Repeat.f at h
 split at h
 ·rename_i hc
  obtain ⟨h1, h2, h3⟩ := hc
  obtain rfl := Option.some.inj h
  obtain ⟨n, rfl⟩ := Int.eq_ofNat_of_zero_le h1
  exact Tryz.strings_Repeat s n w (by omega) h3
 ·cases h
end Go.Proofs.YtlmfoblgheepoaaGreatDoor.Pl
end
section
open Go.Proofs.YtlmfoblgheepoaaGreatDoor.Z
namespace Go.Proofs.YtlmfoblgheepoaaGreatDoor.Pl
open Go.RowKit Go.Proofs.YtlmfoblgheepoaaGreatDoorW.PrintWords Go.Proofs.YtlmfoblgheepoaaGreatDoorW.PrintLast Go.Proofs.YtlmfoblgheepoaaGreatDoorW.PrintMore
attribute [local go_sem] max2_int min2_int max_two min_two max_three min_three max_four min_four
set_option linter.unusedVariables false
set_option linter.unusedSimpArgs false
def plan_eight.f (a0 : Int) : Option (ByteArray) := (strconv_Itoa.f a0).bind fun t132 => ((strings_Repeat.f (⟨#[48]⟩ : ByteArray) (wrap64 (8 - (t132.size : Int)))).bind fun t133 => (if t133.size + t132.size ≤ 9223372036854775807 then (some (t133 ++ t132)) else (none)))
set_option maxHeartbeats 8000000 in
set_option maxRecDepth 100000 in
theorem plan_eight.calls (a0 : Int) (r : ByteArray) (w : World) (hG : Glb w) (h : plan_eight.f a0 = some r) :
 Calls Tryz.prog 37 #[.int .i64 a0] w fun e w' => e = .returned (.string r) ∧ Below w.heap.size w w' := by
 have HGLB := Aside0.mk hG
 clear hG
 have HB := Aside0.mk (Below.refl w.heap.size w)
 have H : ((strconv_Itoa.f a0).bind fun t132 => ((strings_Repeat.f (⟨#[48]⟩ : ByteArray) (wrap64 (8 - (t132.size : Int)))).bind fun t133 => (if t133.size + t132.size ≤ 9223372036854775807 then (some (t133 ++ t132)) else (none)))) = some r := h
 clear h
 replace H := Option.bind_eq_some_iff.mp H
 obtain ⟨t132, A20, H⟩ := H
 try dsimp only at H
 have A2 := Aside0.mk A20
 clear A20
 replace H := Option.bind_eq_some_iff.mp H
 obtain ⟨t133, A30, H⟩ := H
 try dsimp only at H
 have A3 := Aside0.mk A30
 clear A30
 by_cases c4 : t133.size + t132.size ≤ 9223372036854775807
 rotate_left
 ·rw [if_neg c4] at H
  exact absurd H (by simp)
 rw [if_pos c4] at H
 have c4b0 := eq_true c4
 have c4b1 : decide (t133.size + t132.size ≤ 9223372036854775807) = true := decide_eq_true c4
 try have c4b2 : (9223372036854775807 < t133.size + t132.size) = False := eq_false (Nat.not_lt.2 c4)
 obtain rfl := Option.some.inj H
 go_enter Tryz.func37, Tryz.ntmps37
 go_wp2_with (first | ((with_reducible refine gate_callee (f := 60) rfl ?_); refine goesL_ (some 5) rfl rfl Tryz.func60 (by kernel_rfl) rfl #[.int .i64 a0] rfl (zq7) ?_; (with_reducible refine (strconv_Itoa.calls a0 t132 _ ?side1 A2.out).mono ?_); (case side1 => exact zq33); rintro e w5 ⟨rfl, hb⟩; refine ⟨_, rfl, ?_⟩; replace HB := Aside0.mk (below_step (zq5) hb); (try clear hb); (try clear hb2); (try clear hk); (try clear hi)) | ((with_reducible refine gate_callee (f := 61) rfl ?_); refine goesL_ (some 9) rfl rfl Tryz.func61 (by kernel_rfl) rfl #[.string (⟨#[48]⟩ : ByteArray), .int .i64 (wrap64 (8 - (t132.size : Int)))] rfl (zq7) ?_; (with_reducible refine (strings_Repeat.calls (⟨#[48]⟩ : ByteArray) (wrap64 (8 - (t132.size : Int))) t133 _ A3.out).mono ?_); rintro e w6 ⟨rfl, hb⟩; refine ⟨_, rfl, ?_⟩; replace HB := Aside0.mk (below_step (zq5) hb); (try clear hb); (try clear hb2); (try clear hk); (try clear hi)))
 go_ret
 exact ⟨zq6, zq5⟩
mutual
def plan_Write.j0 : Nat → List (S29) → Int → Int → Bool → Option (ByteArray × Int)
 | 0, _, _, _, _ => none
 | k + 1, x0, x1, x2, x24 => if x24 = true then (some ((⟨#[]⟩ : ByteArray), 120)) else ((plan_eight.f x1).bind fun t137 => (plan_Write.l0 k x2 t137 x0 (x0.length : Int) 0))
def plan_Write.l0 : Nat → Int → ByteArray → List (S29) → Int → Int → Option (ByteArray × Int)
 | 0, _, _, _, _, _ => none
 | k + 1, x2, x8, x27, x28, x29 => if x29 < x28 then (if 0 ≤ x29 then (if x29 < (x27.length : Int) then ((strings_HasPrefix.f x8 ((rd_T29 x27 x29).f1)).bind fun t140 => (if t140 = true then (if x2 = 1 then ((plan_room.f ((rd_T29 x27 x29).f0) ((rd_T29 x27 x29).f1) ((rd_T29 x27 x29).f2)).bind fun t141 => (if 0 ≤ (((rd_T29 x27 x29).f1).size : Int) then (if (((rd_T29 x27 x29).f1).size : Int) ≤ (wrap64 (8 - t141)) then (if (wrap64 (8 - t141)) ≤ (x8.size : Int) then ((strings_Trim.f (x8.extract ((((rd_T29 x27 x29).f1).size : Int) : Int).toNat ((wrap64 (8 - t141)) : Int).toNat) (⟨#[48]⟩ : ByteArray)).bind fun t142 => (if t142.toList = ([] : List UInt8) then (if 0 ≤ (wrap64 (8 - t141)) then (if ((rd_T29 x27 x29).f0).size + (x8.extract ((wrap64 (8 - t141)) : Int).toNat x8.size).size ≤ 9223372036854775807 then (some (((rd_T29 x27 x29).f0) ++ (x8.extract ((wrap64 (8 - t141)) : Int).toNat x8.size), 0)) else (none)) else (none)) else (some ((⟨#[]⟩ : ByteArray), 120)))) else (none)) else (none)) else (none))) else (some (x8, 0))) else (plan_Write.l0 k x2 x8 x27 x28 (wrap64 (x29 + 1))))) else (none)) else (none)) else (some ((⟨#[]⟩ : ByteArray), 120))
end
def plan_Write.f (k : Nat) (l0 : List (S29)) (a1 : Int) (a2 : Int) : Option (ByteArray × Int) := (plan_Valid.f k l0).bind fun t134 => (if t134 = true then ((plan_isPhase.f a2).bind fun t135 => (if t135 = true then ((plan_isWithin.f a1 0 99999999).bind fun t136 => (plan_Write.j0 k l0 a1 a2 (!t136))) else (plan_Write.j0 k l0 a1 a2 true))) else (plan_Write.j0 k l0 a1 a2 true))
theorem plan_Write.mono_l : ∀ k, (∀ y0 y1 y2 y3, LeO (plan_Write.j0 k y0 y1 y2 y3) (plan_Write.j0 (k + 1) y0 y1 y2 y3)) ∧ (∀ y0 y1 y2 y3 y4, LeO (plan_Write.l0 k y0 y1 y2 y3 y4) (plan_Write.l0 (k + 1) y0 y1 y2 y3 y4))
 | 0 => ⟨fun _ _ _ _ r h => by simp [plan_Write.j0] at h, fun _ _ _ _ _ r h => by simp [plan_Write.l0] at h⟩
 | k + 1 => by
  obtain ⟨ih0, ih1⟩ := plan_Write.mono_l k
  refine ⟨?_, ?_⟩
  ·intro y0 y1 y2 y3
   unfold plan_Write.j0
   repeat' first
   | (with_reducible exact ih0 _ _ _ _)
   | (with_reducible exact ih1 _ _ _ _ _)
   | (with_reducible exact plan_Valid.mono _ _)
   | (with_reducible exact LeO.refl _)
   | (with_reducible exact LeO.none _)
   | (with_reducible refine LeO.ite ?_ ?_)
   | (with_reducible refine LeO.bind ?_ (fun _ => ?_))
   | exact ih0 _ _ _ _
   | exact ih1 _ _ _ _ _
   | exact plan_Valid.mono _ _
   | exact LeO.none _
   | refine LeO.ite ?_ ?_
   | refine LeO.bind ?_ (fun _ => ?_)
  ·intro y0 y1 y2 y3 y4
   unfold plan_Write.l0
   repeat' first
   | (with_reducible exact ih0 _ _ _ _)
   | (with_reducible exact ih1 _ _ _ _ _)
   | (with_reducible exact plan_Valid.mono _ _)
   | (with_reducible exact LeO.refl _)
   | (with_reducible exact LeO.none _)
   | (with_reducible refine LeO.ite ?_ ?_)
   | (with_reducible refine LeO.bind ?_ (fun _ => ?_))
   | exact ih0 _ _ _ _
   | exact ih1 _ _ _ _ _
   | exact plan_Valid.mono _ _
   | exact LeO.none _
   | refine LeO.ite ?_ ?_
   | refine LeO.bind ?_ (fun _ => ?_)
theorem plan_Write.mono : ∀ a0 a1 a2 k, LeO (plan_Write.f k a0 a1 a2) (plan_Write.f (k + 1) a0 a1 a2) := by
 intro a0 a1 a2 k
 obtain ⟨ih0, ih1⟩ := plan_Write.mono_l k
 unfold plan_Write.f
 repeat' first
  | (with_reducible exact ih0 _ _ _ _)
  | (with_reducible exact ih1 _ _ _ _ _)
  | (with_reducible exact plan_Valid.mono _ _)
  | (with_reducible exact LeO.refl _)
  | (with_reducible exact LeO.none _)
  | (with_reducible refine LeO.ite ?_ ?_)
  | (with_reducible refine LeO.bind ?_ (fun _ => ?_))
  | exact ih0 _ _ _ _
  | exact ih1 _ _ _ _ _
  | exact plan_Valid.mono _ _
  | exact LeO.none _
  | refine LeO.ite ?_ ?_
  | refine LeO.bind ?_ (fun _ => ?_)
set_option maxHeartbeats 8000000 in
set_option maxRecDepth 100000 in
theorem plan_Write.calls (k : Nat) (A0 : Option Addr) (c0 : Nat) (l0 : List (S29)) (a1 : Int) (a2 : Int) (r1 : ByteArray) (r2 : Int) (w : World) (hr0 : Kd.C k29 w A0 l0.length l0) (hc0 : l0.length ≤ c0) (hG : Glb w) (h : plan_Write.f k l0 a1 a2 = some (r1, r2)) :
 Calls Tryz.prog 17 #[.slice A0 l0.length c0, .int .i64 a1, .int .i64 a2] w fun e w' => e = .returned (.tuple #[.string r1, .int .i64 r2]) ∧ Below w.heap.size w w' := by
 have HGLB := Aside0.mk hG
 clear hG
 have hu29 := Tryz.underlying29
 have HR0 := Aside0.mk hr0
 have HC0 := Aside0.mk hc0
 clear hr0 hc0
 have HB := Aside0.mk (Below.refl w.heap.size w)
 have H : ((plan_Valid.f k l0).bind fun t134 => (if t134 = true then ((plan_isPhase.f a2).bind fun t135 => (if t135 = true then ((plan_isWithin.f a1 0 99999999).bind fun t136 => (plan_Write.j0 k l0 a1 a2 (!t136))) else (plan_Write.j0 k l0 a1 a2 true))) else (plan_Write.j0 k l0 a1 a2 true))) = some (r1, r2) := h
 clear h
 have HC4 := Aside0.mk H
 clear H
 go_enter Tryz.func17, Tryz.ntmps17
 go_upto_region 1 with (fail)
 repeat (go_quiet (fail); go_upto_region 1 with (fail))
 go_cut [24] (fun v24 wc => ∃ (kq : Nat) (x24_3 : Bool), v24 = .bool x24_3 ∧ Aside0 (plan_Write.j0 kq l0 a1 a2 x24_3 = some (r1, r2)) ∧ Aside0 (kq ≤ k) ∧ Aside0 (Below w.heap.size w wc))
 case first =>
  have H := HC4.out
  clear HC4
  replace H := Option.bind_eq_some_iff.mp H
  obtain ⟨t134, A50, H⟩ := H
  replace H : (if t134 = true then ((plan_isPhase.f a2).bind fun t135 => (if t135 = true then ((plan_isWithin.f a1 0 99999999).bind fun t136 => (plan_Write.j0 k l0 a1 a2 (!t136))) else (plan_Write.j0 k l0 a1 a2 true))) else (plan_Write.j0 k l0 a1 a2 true)) = some (r1, r2) := H
  have A5 := Aside0.mk A50
  clear A50
  by_cases c6 : t134 = true
  rotate_left
  ·replace c6 := Bool.eq_false_iff.mpr c6
   subst c6
   have H1 : (plan_Write.j0 k l0 a1 a2 true) = some (r1, r2) := by rw [if_neg (show ¬ (false = true) by decide)] at H; exact H
   clear H
   have H := H1
   clear H1
   have H' := Aside0.mk H
   clear H
   go_wp2_with (first | (go_at_call 25; (with_reducible refine (plan_Valid.calls k _ _ l0 false _ ?side1 ?side2 A5.out).mono ?_); (case side1 => exact zq28); (case side2 => exact zq29); rintro e w12 ⟨rfl, hb⟩; replace HB := Aside0.mk (below_step (zq5) hb); (try clear hb); (try clear hb2); (try clear hk); (try clear hi)))
   repeat (go_quiet (first | (go_at_call 25; (with_reducible refine (plan_Valid.calls k _ _ l0 false _ ?side1 ?side2 A5.out).mono ?_); (case side1 => exact zq28); (case side2 => exact zq29); rintro e w12 ⟨rfl, hb⟩; replace HB := Aside0.mk (below_step (zq5) hb); (try clear hb); (try clear hb2); (try clear hk); (try clear hi))); try go_wp2_with (first | (go_at_call 25; (with_reducible refine (plan_Valid.calls k _ _ l0 false _ ?side1 ?side2 A5.out).mono ?_); (case side1 => exact zq28); (case side2 => exact zq29); rintro e w12 ⟨rfl, hb⟩; replace HB := Aside0.mk (below_step (zq5) hb); (try clear hb); (try clear hb2); (try clear hk); (try clear hi))))
   go_meet
   case rel => exact ⟨_, (true), (zq1), H', ⟨zq10⟩, ⟨zq5⟩⟩
  subst c6
  have H1 : ((plan_isPhase.f a2).bind fun t135 => (if t135 = true then ((plan_isWithin.f a1 0 99999999).bind fun t136 => (plan_Write.j0 k l0 a1 a2 (!t136))) else (plan_Write.j0 k l0 a1 a2 true))) = some (r1, r2) := by rw [if_pos rfl] at H; exact H
  clear H
  have H := H1
  clear H1
  replace H := Option.bind_eq_some_iff.mp H
  obtain ⟨t135, A70, H⟩ := H
  replace H : (if t135 = true then ((plan_isWithin.f a1 0 99999999).bind fun t136 => (plan_Write.j0 k l0 a1 a2 (!t136))) else (plan_Write.j0 k l0 a1 a2 true)) = some (r1, r2) := H
  have A7 := Aside0.mk A70
  clear A70
  by_cases c8 : t135 = true
  rotate_left
  ·replace c8 := Bool.eq_false_iff.mpr c8
   subst c8
   have H1 : (plan_Write.j0 k l0 a1 a2 true) = some (r1, r2) := by rw [if_neg (show ¬ (false = true) by decide)] at H; exact H
   clear H
   have H := H1
   clear H1
   have H' := Aside0.mk H
   clear H
   go_wp2_with (first | (go_at_call 25; (with_reducible refine (plan_Valid.calls k _ _ l0 true _ ?side1 ?side2 A5.out).mono ?_); (case side1 => exact zq28); (case side2 => exact zq29); rintro e w11 ⟨rfl, hb⟩; replace HB := Aside0.mk (below_step (zq5) hb); (try clear hb); (try clear hb2); (try clear hk); (try clear hi)) | (go_at_call 35; (with_reducible refine (plan_isPhase.calls a2 false _ A7.out).mono ?_); rintro e w' ⟨rfl, ⟨nd, rfl⟩⟩; (try first | exact ⟨rfl, _, World.drewN_drewN _ _ _⟩ | exact ⟨rfl, _, Eq.trans (World.drewN_drewN _ _ _) (congrArg (World.drewN _) (Nat.add_assoc _ _ _))⟩)))
   repeat (go_quiet (first | (go_at_call 25; (with_reducible refine (plan_Valid.calls k _ _ l0 true _ ?side1 ?side2 A5.out).mono ?_); (case side1 => exact zq28); (case side2 => exact zq29); rintro e w11 ⟨rfl, hb⟩; replace HB := Aside0.mk (below_step (zq5) hb); (try clear hb); (try clear hb2); (try clear hk); (try clear hi)) | (go_at_call 35; (with_reducible refine (plan_isPhase.calls a2 false _ A7.out).mono ?_); rintro e w' ⟨rfl, ⟨nd, rfl⟩⟩; (try first | exact ⟨rfl, _, World.drewN_drewN _ _ _⟩ | exact ⟨rfl, _, Eq.trans (World.drewN_drewN _ _ _) (congrArg (World.drewN _) (Nat.add_assoc _ _ _))⟩))); try go_wp2_with (first | (go_at_call 25; (with_reducible refine (plan_Valid.calls k _ _ l0 true _ ?side1 ?side2 A5.out).mono ?_); (case side1 => exact zq28); (case side2 => exact zq29); rintro e w11 ⟨rfl, hb⟩; replace HB := Aside0.mk (below_step (zq5) hb); (try clear hb); (try clear hb2); (try clear hk); (try clear hi)) | (go_at_call 35; (with_reducible refine (plan_isPhase.calls a2 false _ A7.out).mono ?_); rintro e w' ⟨rfl, ⟨nd, rfl⟩⟩; (try first | exact ⟨rfl, _, World.drewN_drewN _ _ _⟩ | exact ⟨rfl, _, Eq.trans (World.drewN_drewN _ _ _) (congrArg (World.drewN _) (Nat.add_assoc _ _ _))⟩))))
   go_meet
   case rel => exact ⟨_, (true), (zq1), H', ⟨zq10⟩, ⟨zq5⟩⟩
  subst c8
  have H1 : ((plan_isWithin.f a1 0 99999999).bind fun t136 => (plan_Write.j0 k l0 a1 a2 (!t136))) = some (r1, r2) := by rw [if_pos rfl] at H; exact H
  clear H
  have H := H1
  clear H1
  replace H := Option.bind_eq_some_iff.mp H
  obtain ⟨t136, A90, H⟩ := H
  replace H : (plan_Write.j0 k l0 a1 a2 (!t136)) = some (r1, r2) := H
  have A9 := Aside0.mk A90
  clear A90
  have H' := Aside0.mk H
  clear H
  go_wp2_with (first | (go_at_call 25; (with_reducible refine (plan_Valid.calls k _ _ l0 true _ ?side1 ?side2 A5.out).mono ?_); (case side1 => exact zq28); (case side2 => exact zq29); rintro e w10 ⟨rfl, hb⟩; replace HB := Aside0.mk (below_step (zq5) hb); (try clear hb); (try clear hb2); (try clear hk); (try clear hi)) | (go_at_call 35; (with_reducible refine (plan_isPhase.calls a2 true _ A7.out).mono ?_); rintro e w' ⟨rfl, ⟨nd, rfl⟩⟩; (try first | exact ⟨rfl, _, World.drewN_drewN _ _ _⟩ | exact ⟨rfl, _, Eq.trans (World.drewN_drewN _ _ _) (congrArg (World.drewN _) (Nat.add_assoc _ _ _))⟩)) | (go_at_call 36; (with_reducible refine (plan_isWithin.calls a1 0 99999999 t136 _ A9.out).mono ?_); rintro e w' ⟨rfl, ⟨nd, rfl⟩⟩; (try first | exact ⟨rfl, _, World.drewN_drewN _ _ _⟩ | exact ⟨rfl, _, Eq.trans (World.drewN_drewN _ _ _) (congrArg (World.drewN _) (Nat.add_assoc _ _ _))⟩)))
  repeat (go_quiet (first | (go_at_call 25; (with_reducible refine (plan_Valid.calls k _ _ l0 true _ ?side1 ?side2 A5.out).mono ?_); (case side1 => exact zq28); (case side2 => exact zq29); rintro e w10 ⟨rfl, hb⟩; replace HB := Aside0.mk (below_step (zq5) hb); (try clear hb); (try clear hb2); (try clear hk); (try clear hi)) | (go_at_call 35; (with_reducible refine (plan_isPhase.calls a2 true _ A7.out).mono ?_); rintro e w' ⟨rfl, ⟨nd, rfl⟩⟩; (try first | exact ⟨rfl, _, World.drewN_drewN _ _ _⟩ | exact ⟨rfl, _, Eq.trans (World.drewN_drewN _ _ _) (congrArg (World.drewN _) (Nat.add_assoc _ _ _))⟩)) | (go_at_call 36; (with_reducible refine (plan_isWithin.calls a1 0 99999999 t136 _ A9.out).mono ?_); rintro e w' ⟨rfl, ⟨nd, rfl⟩⟩; (try first | exact ⟨rfl, _, World.drewN_drewN _ _ _⟩ | exact ⟨rfl, _, Eq.trans (World.drewN_drewN _ _ _) (congrArg (World.drewN _) (Nat.add_assoc _ _ _))⟩))); try go_wp2_with (first | (go_at_call 25; (with_reducible refine (plan_Valid.calls k _ _ l0 true _ ?side1 ?side2 A5.out).mono ?_); (case side1 => exact zq28); (case side2 => exact zq29); rintro e w10 ⟨rfl, hb⟩; replace HB := Aside0.mk (below_step (zq5) hb); (try clear hb); (try clear hb2); (try clear hk); (try clear hi)) | (go_at_call 35; (with_reducible refine (plan_isPhase.calls a2 true _ A7.out).mono ?_); rintro e w' ⟨rfl, ⟨nd, rfl⟩⟩; (try first | exact ⟨rfl, _, World.drewN_drewN _ _ _⟩ | exact ⟨rfl, _, Eq.trans (World.drewN_drewN _ _ _) (congrArg (World.drewN _) (Nat.add_assoc _ _ _))⟩)) | (go_at_call 36; (with_reducible refine (plan_isWithin.calls a1 0 99999999 t136 _ A9.out).mono ?_); rintro e w' ⟨rfl, ⟨nd, rfl⟩⟩; (try first | exact ⟨rfl, _, World.drewN_drewN _ _ _⟩ | exact ⟨rfl, _, Eq.trans (World.drewN_drewN _ _ _) (congrArg (World.drewN _) (Nat.add_assoc _ _ _))⟩))))
  go_meet
  case rel => exact ⟨_, (!t136), (zq1), H', ⟨zq10⟩, ⟨zq5⟩⟩
 case rest =>
  clear HC4
  try clear c1
  try clear p2
  try clear c6
  try clear c8
  obtain ⟨kq, x24_3, rfl, HA, HJ3, HB⟩ := hcut
  cases kq with
  | zero => exact absurd HA.out (by simp [plan_Write.j0])
  | succ kj3 =>
   have H := HA.out
   clear HA
   simp only [plan_Write.j0] at H
   by_cases c13 : x24_3 = true
   ·subst c13
    have H1 : (some ((⟨#[]⟩ : ByteArray), 120)) = some (r1, r2) := by rw [if_pos rfl] at H; exact H
    clear H
    have H := H1
    clear H1
    simp only [Option.some.injEq, Prod.mk.injEq] at H
    obtain ⟨rfl, rfl⟩ := H
    go_wp2
    repeat (go_quiet (fail); try go_wp2)
    go_ret2
    exact ⟨zq6, zq5⟩
   replace c13 := Bool.eq_false_iff.mpr c13
   subst c13
   have H1 : ((plan_eight.f a1).bind fun t137 => (plan_Write.l0 kj3 a2 t137 l0 (l0.length : Int) 0)) = some (r1, r2) := by rw [if_neg (show ¬ (false = true) by decide)] at H; exact H
   clear H
   have H := H1
   clear H1
   replace H := Option.bind_eq_some_iff.mp H
   obtain ⟨t137, A140, H⟩ := H
   replace H : (plan_Write.l0 kj3 a2 t137 l0 (l0.length : Int) 0) = some (r1, r2) := H
   have A14 := Aside0.mk A140
   clear A140
   have H' := Aside0.mk H
   clear H
   go_wp2_with (first | (go_at_call 37; (with_reducible refine (plan_eight.calls a1 t137 _ ?side1 A14.out).mono ?_); (case side1 => exact zq33); rintro e w15 ⟨rfl, hb⟩; replace HB := Aside0.mk (below_step (zq5) hb); (try clear hb); (try clear hb2); (try clear hk); (try clear hi)))
   repeat (go_quiet (first | (go_at_call 37; (with_reducible refine (plan_eight.calls a1 t137 _ ?side1 A14.out).mono ?_); (case side1 => exact zq33); rintro e w15 ⟨rfl, hb⟩; replace HB := Aside0.mk (below_step (zq5) hb); (try clear hb); (try clear hb2); (try clear hk); (try clear hi))); try go_wp2_with (first | (go_at_call 37; (with_reducible refine (plan_eight.calls a1 t137 _ ?side1 A14.out).mono ?_); (case side1 => exact zq33); rintro e w15 ⟨rfl, hb⟩; replace HB := Aside0.mk (below_step (zq5) hb); (try clear hb); (try clear hb2); (try clear hk); (try clear hi))))
   go_loopg [29] kj3 (fun kq v29 w' => ∃ (x29_2 : Int), v29 = .int .i64 x29_2 ∧ Aside0 (plan_Write.l0 kq a2 t137 l0 (l0.length : Int) x29_2 = some (r1, r2)) ∧ Aside0 (kq ≤ kj3) ∧ Aside0 (Below w.heap.size w w'))
   case atStart => exact ⟨(0), (zq1), H', ⟨Nat.le_refl _⟩, ⟨zq5⟩⟩
   case round =>
    clear H'
    try clear c1
    try clear p2
    try clear c6
    try clear c8
    try clear c13
    try clear p2
    obtain ⟨x29_2, rfl, HA, HK2, HB⟩ := hrel
    cases gk with
    | zero => exact absurd HA.out (by simp [plan_Write.l0])
    | succ k2 =>
     have H := HA.out
     clear HA
     simp only [plan_Write.l0] at H
     by_cases c16 : x29_2 < (l0.length : Int)
     rotate_left
     ·rw [if_neg c16] at H
      have c16b0 : decide (x29_2 < (l0.length : Int)) = false := decide_eq_false c16
      clear c16
      simp only [Option.some.injEq, Prod.mk.injEq] at H
      obtain ⟨rfl, rfl⟩ := H
      go_wp2
      repeat (go_quiet (fail); try go_wp2)
      go_ret2
      exact ⟨zq6, zq5⟩
     rw [if_pos c16] at H
     have c16b0 : decide (x29_2 < (l0.length : Int)) = true := decide_eq_true c16
     clear c16
     by_cases c17 : 0 ≤ x29_2
     rotate_left
     ·rw [if_neg c17] at H
      exact absurd H (by simp)
     rw [if_pos c17] at H
     have c17b0 : decide (0 ≤ x29_2) = true := decide_eq_true c17
     clear c17
     by_cases c18 : x29_2 < (l0.length : Int)
     rotate_left
     ·rw [if_neg c18] at H
      exact absurd H (by simp)
     rw [if_pos c18] at H
     have c18b0 : decide (x29_2 < (l0.length : Int)) = true := decide_eq_true c18
     clear c18
     replace H := Option.bind_eq_some_iff.mp H
     obtain ⟨t140, A190, H⟩ := H
     replace H : (if t140 = true then (if a2 = 1 then ((plan_room.f ((rd_T29 l0 x29_2).f0) ((rd_T29 l0 x29_2).f1) ((rd_T29 l0 x29_2).f2)).bind fun t141 => (if 0 ≤ (((rd_T29 l0 x29_2).f1).size : Int) then (if (((rd_T29 l0 x29_2).f1).size : Int) ≤ (wrap64 (8 - t141)) then (if (wrap64 (8 - t141)) ≤ (t137.size : Int) then ((strings_Trim.f (t137.extract ((((rd_T29 l0 x29_2).f1).size : Int) : Int).toNat ((wrap64 (8 - t141)) : Int).toNat) (⟨#[48]⟩ : ByteArray)).bind fun t142 => (if t142.toList = ([] : List UInt8) then (if 0 ≤ (wrap64 (8 - t141)) then (if ((rd_T29 l0 x29_2).f0).size + (t137.extract ((wrap64 (8 - t141)) : Int).toNat t137.size).size ≤ 9223372036854775807 then (some (((rd_T29 l0 x29_2).f0) ++ (t137.extract ((wrap64 (8 - t141)) : Int).toNat t137.size), 0)) else (none)) else (none)) else (some ((⟨#[]⟩ : ByteArray), 120)))) else (none)) else (none)) else (none))) else (some (t137, 0))) else (plan_Write.l0 k2 a2 t137 l0 (l0.length : Int) (wrap64 (x29_2 + 1)))) = some (r1, r2) := H
     have A19 := Aside0.mk A190
     clear A190
     by_cases c20 : t140 = true
     rotate_left
     ·replace c20 := Bool.eq_false_iff.mpr c20
      subst c20
      have H1 : (plan_Write.l0 k2 a2 t137 l0 (l0.length : Int) (wrap64 (x29_2 + 1))) = some (r1, r2) := by rw [if_neg (show ¬ (false = true) by decide)] at H; exact H
      clear H
      have H := H1
      clear H1
      have H' := Aside0.mk H
      clear H
      have p138 : 0 ≤ (x29_2 : Int) := of_decide_eq_true (zq18)
      have q138 : x29_2 < (l0.length : Int) := of_decide_eq_true (zq18)
      obtain ⟨ad138, e138, hx138_0, hx138_1, hx138_2⟩ := at_T29 HR0.out x29_2 p138 q138
      cases e138
      replace hx138_0 := (HB.out.cell (World.block_lt_of_cell? w _ hx138_0)).trans hx138_0
      replace hx138_1 := (HB.out.cell (World.block_lt_of_cell? w _ hx138_1)).trans hx138_1
      replace hx138_2 := (HB.out.cell (World.block_lt_of_cell? w _ hx138_2)).trans hx138_2
      replace p138 := eq_true p138
      replace q138 := eq_true q138
      go_wp2_with (first | ((with_reducible refine gate_dst (N := 10) rfl ?_); refine box_event ?hg (N := 10) ?hd (cs := #[.string (⟨#[]⟩ : ByteArray), .string (⟨#[]⟩ : ByteArray), .int .i64 0]) (t := 29) ?hr ?_; (case hd => rfl); (case hg => rfl); (case hr => exact zq3); intro gb139 hg w50 hbox hb; have BK139 := Aside0.mk (hbox); have GW139 := Aside0.mk ((zq4 : w.heap.size ≤ gb139)); have GE139 := Aside0.mk ((zq4 : w.heap.size ≤ gb139)); replace HB := Aside0.mk (below_step (zq5) hb); clear hb hbox hg; have hcz51_0 : w50.cell? ⟨gb139, 0, none⟩ = some (.string (⟨#[]⟩ : ByteArray)) := (blk_cell BK139.out 0).trans rfl; have hcz51_1 : w50.cell? ⟨gb139, 1, none⟩ = some (.string (⟨#[]⟩ : ByteArray)) := (blk_cell BK139.out 1).trans rfl; have hcz51_2 : w50.cell? ⟨gb139, 2, none⟩ = some (.int .i64 0) := (blk_cell BK139.out 2).trans rfl; have hfz51_0 := blk_frozen BK139.out 0; have hfz51_1 := blk_frozen BK139.out 1; have hfz51_2 := blk_frozen BK139.out 2) | (go_at_call 38; (with_reducible refine (strings_HasPrefix.calls t137 ((rd_T29 l0 x29_2).f1) false _ A19.out).mono ?_); rintro e w52 ⟨rfl, hb⟩; replace BK139 := Aside0.mk (blk_below (g := gb139) (o := .cells #[.string ((rd_T29 l0 x29_2).f0), .string ((rd_T29 l0 x29_2).f1), .int .i64 ((rd_T29 l0 x29_2).f2)] 29 (0, 0)) (zq34) hb); replace HB := Aside0.mk (below_step (zq35) hb); (try clear hb); (try clear hb2); (try clear hk); (try clear hi)))
      repeat (go_quiet (first | ((with_reducible refine gate_dst (N := 10) rfl ?_); refine box_event ?hg (N := 10) ?hd (cs := #[.string (⟨#[]⟩ : ByteArray), .string (⟨#[]⟩ : ByteArray), .int .i64 0]) (t := 29) ?hr ?_; (case hd => rfl); (case hg => rfl); (case hr => exact zq3); intro gb139 hg w50 hbox hb; have BK139 := Aside0.mk (hbox); have GW139 := Aside0.mk ((zq4 : w.heap.size ≤ gb139)); have GE139 := Aside0.mk ((zq4 : w.heap.size ≤ gb139)); replace HB := Aside0.mk (below_step (zq5) hb); clear hb hbox hg; have hcz51_0 : w50.cell? ⟨gb139, 0, none⟩ = some (.string (⟨#[]⟩ : ByteArray)) := (blk_cell BK139.out 0).trans rfl; have hcz51_1 : w50.cell? ⟨gb139, 1, none⟩ = some (.string (⟨#[]⟩ : ByteArray)) := (blk_cell BK139.out 1).trans rfl; have hcz51_2 : w50.cell? ⟨gb139, 2, none⟩ = some (.int .i64 0) := (blk_cell BK139.out 2).trans rfl; have hfz51_0 := blk_frozen BK139.out 0; have hfz51_1 := blk_frozen BK139.out 1; have hfz51_2 := blk_frozen BK139.out 2) | (go_at_call 38; (with_reducible refine (strings_HasPrefix.calls t137 ((rd_T29 l0 x29_2).f1) false _ A19.out).mono ?_); rintro e w52 ⟨rfl, hb⟩; replace BK139 := Aside0.mk (blk_below (g := gb139) (o := .cells #[.string ((rd_T29 l0 x29_2).f0), .string ((rd_T29 l0 x29_2).f1), .int .i64 ((rd_T29 l0 x29_2).f2)] 29 (0, 0)) (zq34) hb); replace HB := Aside0.mk (below_step (zq35) hb); (try clear hb); (try clear hb2); (try clear hk); (try clear hi))); try go_wp2_with (first | ((with_reducible refine gate_dst (N := 10) rfl ?_); refine box_event ?hg (N := 10) ?hd (cs := #[.string (⟨#[]⟩ : ByteArray), .string (⟨#[]⟩ : ByteArray), .int .i64 0]) (t := 29) ?hr ?_; (case hd => rfl); (case hg => rfl); (case hr => exact zq3); intro gb139 hg w50 hbox hb; have BK139 := Aside0.mk (hbox); have GW139 := Aside0.mk ((zq4 : w.heap.size ≤ gb139)); have GE139 := Aside0.mk ((zq4 : w.heap.size ≤ gb139)); replace HB := Aside0.mk (below_step (zq5) hb); clear hb hbox hg; have hcz51_0 : w50.cell? ⟨gb139, 0, none⟩ = some (.string (⟨#[]⟩ : ByteArray)) := (blk_cell BK139.out 0).trans rfl; have hcz51_1 : w50.cell? ⟨gb139, 1, none⟩ = some (.string (⟨#[]⟩ : ByteArray)) := (blk_cell BK139.out 1).trans rfl; have hcz51_2 : w50.cell? ⟨gb139, 2, none⟩ = some (.int .i64 0) := (blk_cell BK139.out 2).trans rfl; have hfz51_0 := blk_frozen BK139.out 0; have hfz51_1 := blk_frozen BK139.out 1; have hfz51_2 := blk_frozen BK139.out 2) | (go_at_call 38; (with_reducible refine (strings_HasPrefix.calls t137 ((rd_T29 l0 x29_2).f1) false _ A19.out).mono ?_); rintro e w52 ⟨rfl, hb⟩; replace BK139 := Aside0.mk (blk_below (g := gb139) (o := .cells #[.string ((rd_T29 l0 x29_2).f0), .string ((rd_T29 l0 x29_2).f1), .int .i64 ((rd_T29 l0 x29_2).f2)] 29 (0, 0)) (zq34) hb); replace HB := Aside0.mk (below_step (zq35) hb); (try clear hb); (try clear hb2); (try clear hk); (try clear hi))))
      go_roundg k2
      case measure => have := HJ3.out; have := HK2.out; omega
      case rel => exact ⟨(wrap64 (x29_2 + 1)), (zq1), H', ⟨by have := HJ3.out; have := HK2.out; omega⟩, ⟨zq35⟩⟩
     subst c20
     have H1 : (if a2 = 1 then ((plan_room.f ((rd_T29 l0 x29_2).f0) ((rd_T29 l0 x29_2).f1) ((rd_T29 l0 x29_2).f2)).bind fun t141 => (if 0 ≤ (((rd_T29 l0 x29_2).f1).size : Int) then (if (((rd_T29 l0 x29_2).f1).size : Int) ≤ (wrap64 (8 - t141)) then (if (wrap64 (8 - t141)) ≤ (t137.size : Int) then ((strings_Trim.f (t137.extract ((((rd_T29 l0 x29_2).f1).size : Int) : Int).toNat ((wrap64 (8 - t141)) : Int).toNat) (⟨#[48]⟩ : ByteArray)).bind fun t142 => (if t142.toList = ([] : List UInt8) then (if 0 ≤ (wrap64 (8 - t141)) then (if ((rd_T29 l0 x29_2).f0).size + (t137.extract ((wrap64 (8 - t141)) : Int).toNat t137.size).size ≤ 9223372036854775807 then (some (((rd_T29 l0 x29_2).f0) ++ (t137.extract ((wrap64 (8 - t141)) : Int).toNat t137.size), 0)) else (none)) else (none)) else (some ((⟨#[]⟩ : ByteArray), 120)))) else (none)) else (none)) else (none))) else (some (t137, 0))) = some (r1, r2) := by rw [if_pos rfl] at H; exact H
     clear H
     have H := H1
     clear H1
     by_cases c21 : a2 = 1
     rotate_left
     ·rw [if_neg c21] at H
      have c21b0 : (a2 == 1) = false := beq_eq_false_iff_ne.mpr c21
      have c21b1 : (a2 != 1) = true := bne_iff_ne.mpr c21
      simp only [Option.some.injEq, Prod.mk.injEq] at H
      obtain ⟨rfl, rfl⟩ := H
      have p138 : 0 ≤ (x29_2 : Int) := of_decide_eq_true (zq18)
      have q138 : x29_2 < (l0.length : Int) := of_decide_eq_true (zq18)
      obtain ⟨ad138, e138, hx138_0, hx138_1, hx138_2⟩ := at_T29 HR0.out x29_2 p138 q138
      cases e138
      replace hx138_0 := (HB.out.cell (World.block_lt_of_cell? w _ hx138_0)).trans hx138_0
      replace hx138_1 := (HB.out.cell (World.block_lt_of_cell? w _ hx138_1)).trans hx138_1
      replace hx138_2 := (HB.out.cell (World.block_lt_of_cell? w _ hx138_2)).trans hx138_2
      replace p138 := eq_true p138
      replace q138 := eq_true q138
      go_wp2_with (first | ((with_reducible refine gate_dst (N := 10) rfl ?_); refine box_event ?hg (N := 10) ?hd (cs := #[.string (⟨#[]⟩ : ByteArray), .string (⟨#[]⟩ : ByteArray), .int .i64 0]) (t := 29) ?hr ?_; (case hd => rfl); (case hg => rfl); (case hr => exact zq3); intro gb139 hg w47 hbox hb; have BK139 := Aside0.mk (hbox); have GW139 := Aside0.mk ((zq4 : w.heap.size ≤ gb139)); have GE139 := Aside0.mk ((zq4 : w.heap.size ≤ gb139)); replace HB := Aside0.mk (below_step (zq5) hb); clear hb hbox hg; have hcz48_0 : w47.cell? ⟨gb139, 0, none⟩ = some (.string (⟨#[]⟩ : ByteArray)) := (blk_cell BK139.out 0).trans rfl; have hcz48_1 : w47.cell? ⟨gb139, 1, none⟩ = some (.string (⟨#[]⟩ : ByteArray)) := (blk_cell BK139.out 1).trans rfl; have hcz48_2 : w47.cell? ⟨gb139, 2, none⟩ = some (.int .i64 0) := (blk_cell BK139.out 2).trans rfl; have hfz48_0 := blk_frozen BK139.out 0; have hfz48_1 := blk_frozen BK139.out 1; have hfz48_2 := blk_frozen BK139.out 2) | (go_at_call 38; (with_reducible refine (strings_HasPrefix.calls t137 ((rd_T29 l0 x29_2).f1) true _ A19.out).mono ?_); rintro e w49 ⟨rfl, hb⟩; replace BK139 := Aside0.mk (blk_below (g := gb139) (o := .cells #[.string ((rd_T29 l0 x29_2).f0), .string ((rd_T29 l0 x29_2).f1), .int .i64 ((rd_T29 l0 x29_2).f2)] 29 (0, 0)) (zq34) hb); replace HB := Aside0.mk (below_step (zq35) hb); (try clear hb); (try clear hb2); (try clear hk); (try clear hi)))
      repeat (go_quiet (first | ((with_reducible refine gate_dst (N := 10) rfl ?_); refine box_event ?hg (N := 10) ?hd (cs := #[.string (⟨#[]⟩ : ByteArray), .string (⟨#[]⟩ : ByteArray), .int .i64 0]) (t := 29) ?hr ?_; (case hd => rfl); (case hg => rfl); (case hr => exact zq3); intro gb139 hg w47 hbox hb; have BK139 := Aside0.mk (hbox); have GW139 := Aside0.mk ((zq4 : w.heap.size ≤ gb139)); have GE139 := Aside0.mk ((zq4 : w.heap.size ≤ gb139)); replace HB := Aside0.mk (below_step (zq5) hb); clear hb hbox hg; have hcz48_0 : w47.cell? ⟨gb139, 0, none⟩ = some (.string (⟨#[]⟩ : ByteArray)) := (blk_cell BK139.out 0).trans rfl; have hcz48_1 : w47.cell? ⟨gb139, 1, none⟩ = some (.string (⟨#[]⟩ : ByteArray)) := (blk_cell BK139.out 1).trans rfl; have hcz48_2 : w47.cell? ⟨gb139, 2, none⟩ = some (.int .i64 0) := (blk_cell BK139.out 2).trans rfl; have hfz48_0 := blk_frozen BK139.out 0; have hfz48_1 := blk_frozen BK139.out 1; have hfz48_2 := blk_frozen BK139.out 2) | (go_at_call 38; (with_reducible refine (strings_HasPrefix.calls t137 ((rd_T29 l0 x29_2).f1) true _ A19.out).mono ?_); rintro e w49 ⟨rfl, hb⟩; replace BK139 := Aside0.mk (blk_below (g := gb139) (o := .cells #[.string ((rd_T29 l0 x29_2).f0), .string ((rd_T29 l0 x29_2).f1), .int .i64 ((rd_T29 l0 x29_2).f2)] 29 (0, 0)) (zq34) hb); replace HB := Aside0.mk (below_step (zq35) hb); (try clear hb); (try clear hb2); (try clear hk); (try clear hi))); try go_wp2_with (first | ((with_reducible refine gate_dst (N := 10) rfl ?_); refine box_event ?hg (N := 10) ?hd (cs := #[.string (⟨#[]⟩ : ByteArray), .string (⟨#[]⟩ : ByteArray), .int .i64 0]) (t := 29) ?hr ?_; (case hd => rfl); (case hg => rfl); (case hr => exact zq3); intro gb139 hg w47 hbox hb; have BK139 := Aside0.mk (hbox); have GW139 := Aside0.mk ((zq4 : w.heap.size ≤ gb139)); have GE139 := Aside0.mk ((zq4 : w.heap.size ≤ gb139)); replace HB := Aside0.mk (below_step (zq5) hb); clear hb hbox hg; have hcz48_0 : w47.cell? ⟨gb139, 0, none⟩ = some (.string (⟨#[]⟩ : ByteArray)) := (blk_cell BK139.out 0).trans rfl; have hcz48_1 : w47.cell? ⟨gb139, 1, none⟩ = some (.string (⟨#[]⟩ : ByteArray)) := (blk_cell BK139.out 1).trans rfl; have hcz48_2 : w47.cell? ⟨gb139, 2, none⟩ = some (.int .i64 0) := (blk_cell BK139.out 2).trans rfl; have hfz48_0 := blk_frozen BK139.out 0; have hfz48_1 := blk_frozen BK139.out 1; have hfz48_2 := blk_frozen BK139.out 2) | (go_at_call 38; (with_reducible refine (strings_HasPrefix.calls t137 ((rd_T29 l0 x29_2).f1) true _ A19.out).mono ?_); rintro e w49 ⟨rfl, hb⟩; replace BK139 := Aside0.mk (blk_below (g := gb139) (o := .cells #[.string ((rd_T29 l0 x29_2).f0), .string ((rd_T29 l0 x29_2).f1), .int .i64 ((rd_T29 l0 x29_2).f2)] 29 (0, 0)) (zq34) hb); replace HB := Aside0.mk (below_step (zq35) hb); (try clear hb); (try clear hb2); (try clear hk); (try clear hi))))
      go_ret2
      exact ⟨zq6, zq35⟩
     rw [if_pos c21] at H
     have c21b0 : (a2 == 1) = true := beq_iff_eq.mpr c21
     have c21b1 : (a2 != 1) = false := bne_eq_false_iff_eq.mpr c21
     clear c21
     replace H := Option.bind_eq_some_iff.mp H
     obtain ⟨t141, A220, H⟩ := H
     replace H : (if 0 ≤ (((rd_T29 l0 x29_2).f1).size : Int) then (if (((rd_T29 l0 x29_2).f1).size : Int) ≤ (wrap64 (8 - t141)) then (if (wrap64 (8 - t141)) ≤ (t137.size : Int) then ((strings_Trim.f (t137.extract ((((rd_T29 l0 x29_2).f1).size : Int) : Int).toNat ((wrap64 (8 - t141)) : Int).toNat) (⟨#[48]⟩ : ByteArray)).bind fun t142 => (if t142.toList = ([] : List UInt8) then (if 0 ≤ (wrap64 (8 - t141)) then (if ((rd_T29 l0 x29_2).f0).size + (t137.extract ((wrap64 (8 - t141)) : Int).toNat t137.size).size ≤ 9223372036854775807 then (some (((rd_T29 l0 x29_2).f0) ++ (t137.extract ((wrap64 (8 - t141)) : Int).toNat t137.size), 0)) else (none)) else (none)) else (some ((⟨#[]⟩ : ByteArray), 120)))) else (none)) else (none)) else (none)) = some (r1, r2) := H
     have A22 := Aside0.mk A220
     clear A220
     by_cases c23 : 0 ≤ (((rd_T29 l0 x29_2).f1).size : Int)
     rotate_left
     ·rw [if_neg c23] at H
      exact absurd H (by simp)
     rw [if_pos c23] at H
     have c23b0 := eq_true c23
     have c23b1 : decide (0 ≤ (((rd_T29 l0 x29_2).f1).size : Int)) = true := decide_eq_true c23
     clear c23
     by_cases c24 : (((rd_T29 l0 x29_2).f1).size : Int) ≤ (wrap64 (8 - t141))
     rotate_left
     ·rw [if_neg c24] at H
      exact absurd H (by simp)
     rw [if_pos c24] at H
     have c24b0 := eq_true c24
     have c24b1 : decide ((((rd_T29 l0 x29_2).f1).size : Int) ≤ (wrap64 (8 - t141))) = true := decide_eq_true c24
     clear c24
     by_cases c25 : (wrap64 (8 - t141)) ≤ (t137.size : Int)
     rotate_left
     ·rw [if_neg c25] at H
      exact absurd H (by simp)
     rw [if_pos c25] at H
     have c25b0 := eq_true c25
     have c25b1 : decide ((wrap64 (8 - t141)) ≤ (t137.size : Int)) = true := decide_eq_true c25
     clear c25
     replace H := Option.bind_eq_some_iff.mp H
     obtain ⟨t142, A260, H⟩ := H
     replace H : (if t142.toList = ([] : List UInt8) then (if 0 ≤ (wrap64 (8 - t141)) then (if ((rd_T29 l0 x29_2).f0).size + (t137.extract ((wrap64 (8 - t141)) : Int).toNat t137.size).size ≤ 9223372036854775807 then (some (((rd_T29 l0 x29_2).f0) ++ (t137.extract ((wrap64 (8 - t141)) : Int).toNat t137.size), 0)) else (none)) else (none)) else (some ((⟨#[]⟩ : ByteArray), 120))) = some (r1, r2) := H
     have A26 := Aside0.mk A260
     clear A260
     by_cases c27 : t142.toList = ([] : List UInt8)
     rotate_left
     ·rw [if_neg c27] at H
      have c27b0 : (t142.toList == ([] : List UInt8)) = false := beq_eq_false_iff_ne.mpr c27
      have c27b1 : (t142.toList != ([] : List UInt8)) = true := bne_iff_ne.mpr c27
      simp only [Option.some.injEq, Prod.mk.injEq] at H
      obtain ⟨rfl, rfl⟩ := H
      have p138 : 0 ≤ (x29_2 : Int) := of_decide_eq_true (zq18)
      have q138 : x29_2 < (l0.length : Int) := of_decide_eq_true (zq18)
      obtain ⟨ad138, e138, hx138_0, hx138_1, hx138_2⟩ := at_T29 HR0.out x29_2 p138 q138
      cases e138
      replace hx138_0 := (HB.out.cell (World.block_lt_of_cell? w _ hx138_0)).trans hx138_0
      replace hx138_1 := (HB.out.cell (World.block_lt_of_cell? w _ hx138_1)).trans hx138_1
      replace hx138_2 := (HB.out.cell (World.block_lt_of_cell? w _ hx138_2)).trans hx138_2
      replace p138 := eq_true p138
      replace q138 := eq_true q138
      go_wp2_with (first | ((with_reducible refine gate_dst (N := 10) rfl ?_); refine box_event ?hg (N := 10) ?hd (cs := #[.string (⟨#[]⟩ : ByteArray), .string (⟨#[]⟩ : ByteArray), .int .i64 0]) (t := 29) ?hr ?_; (case hd => rfl); (case hg => rfl); (case hr => exact zq3); intro gb139 hg w40 hbox hb; have BK139 := Aside0.mk (hbox); have GW139 := Aside0.mk ((zq4 : w.heap.size ≤ gb139)); have GE139 := Aside0.mk ((zq4 : w.heap.size ≤ gb139)); replace HB := Aside0.mk (below_step (zq5) hb); clear hb hbox hg; have hcz41_0 : w40.cell? ⟨gb139, 0, none⟩ = some (.string (⟨#[]⟩ : ByteArray)) := (blk_cell BK139.out 0).trans rfl; have hcz41_1 : w40.cell? ⟨gb139, 1, none⟩ = some (.string (⟨#[]⟩ : ByteArray)) := (blk_cell BK139.out 1).trans rfl; have hcz41_2 : w40.cell? ⟨gb139, 2, none⟩ = some (.int .i64 0) := (blk_cell BK139.out 2).trans rfl; have hfz41_0 := blk_frozen BK139.out 0; have hfz41_1 := blk_frozen BK139.out 1; have hfz41_2 := blk_frozen BK139.out 2) | (go_at_call 38; (with_reducible refine (strings_HasPrefix.calls t137 ((rd_T29 l0 x29_2).f1) true _ A19.out).mono ?_); rintro e w42 ⟨rfl, hb⟩; replace BK139 := Aside0.mk (blk_below (g := gb139) (o := .cells #[.string ((rd_T29 l0 x29_2).f0), .string ((rd_T29 l0 x29_2).f1), .int .i64 ((rd_T29 l0 x29_2).f2)] 29 (0, 0)) (zq34) hb); replace HB := Aside0.mk (below_step (zq35) hb); (try clear hb); (try clear hb2); (try clear hk); (try clear hi); have hcz43_0 : w42.cell? ⟨gb139, 0, none⟩ = some (.string ((rd_T29 l0 x29_2).f0)) := (blk_cell BK139.out 0).trans rfl; have hcz43_1 : w42.cell? ⟨gb139, 1, none⟩ = some (.string ((rd_T29 l0 x29_2).f1)) := (blk_cell BK139.out 1).trans rfl; have hcz43_2 : w42.cell? ⟨gb139, 2, none⟩ = some (.int .i64 ((rd_T29 l0 x29_2).f2)) := (blk_cell BK139.out 2).trans rfl; have hfz43_0 := blk_frozen BK139.out 0; have hfz43_1 := blk_frozen BK139.out 1; have hfz43_2 := blk_frozen BK139.out 2) | (go_at_call 39; (with_reducible refine (plan_room.calls ((rd_T29 l0 x29_2).f0) ((rd_T29 l0 x29_2).f1) ((rd_T29 l0 x29_2).f2) t141 _ A22.out).mono ?_); rintro e w44 ⟨rfl, hb⟩; replace BK139 := Aside0.mk (blk_below (g := gb139) (o := .cells #[.string ((rd_T29 l0 x29_2).f0), .string ((rd_T29 l0 x29_2).f1), .int .i64 ((rd_T29 l0 x29_2).f2)] 29 (0, 0)) (zq36) hb); replace HB := Aside0.mk (below_step (zq35) hb); (try clear hb); (try clear hb2); (try clear hk); (try clear hi); have hcz45_0 : w44.cell? ⟨gb139, 0, none⟩ = some (.string ((rd_T29 l0 x29_2).f0)) := (blk_cell BK139.out 0).trans rfl; have hcz45_1 : w44.cell? ⟨gb139, 1, none⟩ = some (.string ((rd_T29 l0 x29_2).f1)) := (blk_cell BK139.out 1).trans rfl; have hcz45_2 : w44.cell? ⟨gb139, 2, none⟩ = some (.int .i64 ((rd_T29 l0 x29_2).f2)) := (blk_cell BK139.out 2).trans rfl; have hfz45_0 := blk_frozen BK139.out 0; have hfz45_1 := blk_frozen BK139.out 1; have hfz45_2 := blk_frozen BK139.out 2) | (go_at_call 40; (first | (with_reducible refine (strings_Trim.calls (t137.extract ((((rd_T29 l0 x29_2).f1).size : Int) : Int).toNat ((wrap64 (8 - t141)) : Int).toNat) (⟨#[48]⟩ : ByteArray) t142 _ A26.out).mono ?_) | (refine calls_of_args (args' := #[.string (t137.extract ((((rd_T29 l0 x29_2).f1).size : Int) : Int).toNat ((wrap64 (8 - t141)) : Int).toNat), .string (⟨#[48]⟩ : ByteArray)]) (zq37) ?_; (with_reducible refine (strings_Trim.calls (t137.extract ((((rd_T29 l0 x29_2).f1).size : Int) : Int).toNat ((wrap64 (8 - t141)) : Int).toNat) (⟨#[48]⟩ : ByteArray) t142 _ A26.out).mono ?_))); rintro e w46 ⟨rfl, hb⟩; replace BK139 := Aside0.mk (blk_below (g := gb139) (o := .cells #[.string ((rd_T29 l0 x29_2).f0), .string ((rd_T29 l0 x29_2).f1), .int .i64 ((rd_T29 l0 x29_2).f2)] 29 (0, 0)) (zq36) hb); replace HB := Aside0.mk (below_step (zq35) hb); (try clear hb); (try clear hb2); (try clear hk); (try clear hi)))
      repeat (go_quiet (first | ((with_reducible refine gate_dst (N := 10) rfl ?_); refine box_event ?hg (N := 10) ?hd (cs := #[.string (⟨#[]⟩ : ByteArray), .string (⟨#[]⟩ : ByteArray), .int .i64 0]) (t := 29) ?hr ?_; (case hd => rfl); (case hg => rfl); (case hr => exact zq3); intro gb139 hg w40 hbox hb; have BK139 := Aside0.mk (hbox); have GW139 := Aside0.mk ((zq4 : w.heap.size ≤ gb139)); have GE139 := Aside0.mk ((zq4 : w.heap.size ≤ gb139)); replace HB := Aside0.mk (below_step (zq5) hb); clear hb hbox hg; have hcz41_0 : w40.cell? ⟨gb139, 0, none⟩ = some (.string (⟨#[]⟩ : ByteArray)) := (blk_cell BK139.out 0).trans rfl; have hcz41_1 : w40.cell? ⟨gb139, 1, none⟩ = some (.string (⟨#[]⟩ : ByteArray)) := (blk_cell BK139.out 1).trans rfl; have hcz41_2 : w40.cell? ⟨gb139, 2, none⟩ = some (.int .i64 0) := (blk_cell BK139.out 2).trans rfl; have hfz41_0 := blk_frozen BK139.out 0; have hfz41_1 := blk_frozen BK139.out 1; have hfz41_2 := blk_frozen BK139.out 2) | (go_at_call 38; (with_reducible refine (strings_HasPrefix.calls t137 ((rd_T29 l0 x29_2).f1) true _ A19.out).mono ?_); rintro e w42 ⟨rfl, hb⟩; replace BK139 := Aside0.mk (blk_below (g := gb139) (o := .cells #[.string ((rd_T29 l0 x29_2).f0), .string ((rd_T29 l0 x29_2).f1), .int .i64 ((rd_T29 l0 x29_2).f2)] 29 (0, 0)) (zq34) hb); replace HB := Aside0.mk (below_step (zq35) hb); (try clear hb); (try clear hb2); (try clear hk); (try clear hi); have hcz43_0 : w42.cell? ⟨gb139, 0, none⟩ = some (.string ((rd_T29 l0 x29_2).f0)) := (blk_cell BK139.out 0).trans rfl; have hcz43_1 : w42.cell? ⟨gb139, 1, none⟩ = some (.string ((rd_T29 l0 x29_2).f1)) := (blk_cell BK139.out 1).trans rfl; have hcz43_2 : w42.cell? ⟨gb139, 2, none⟩ = some (.int .i64 ((rd_T29 l0 x29_2).f2)) := (blk_cell BK139.out 2).trans rfl; have hfz43_0 := blk_frozen BK139.out 0; have hfz43_1 := blk_frozen BK139.out 1; have hfz43_2 := blk_frozen BK139.out 2) | (go_at_call 39; (with_reducible refine (plan_room.calls ((rd_T29 l0 x29_2).f0) ((rd_T29 l0 x29_2).f1) ((rd_T29 l0 x29_2).f2) t141 _ A22.out).mono ?_); rintro e w44 ⟨rfl, hb⟩; replace BK139 := Aside0.mk (blk_below (g := gb139) (o := .cells #[.string ((rd_T29 l0 x29_2).f0), .string ((rd_T29 l0 x29_2).f1), .int .i64 ((rd_T29 l0 x29_2).f2)] 29 (0, 0)) (zq36) hb); replace HB := Aside0.mk (below_step (zq35) hb); (try clear hb); (try clear hb2); (try clear hk); (try clear hi); have hcz45_0 : w44.cell? ⟨gb139, 0, none⟩ = some (.string ((rd_T29 l0 x29_2).f0)) := (blk_cell BK139.out 0).trans rfl; have hcz45_1 : w44.cell? ⟨gb139, 1, none⟩ = some (.string ((rd_T29 l0 x29_2).f1)) := (blk_cell BK139.out 1).trans rfl; have hcz45_2 : w44.cell? ⟨gb139, 2, none⟩ = some (.int .i64 ((rd_T29 l0 x29_2).f2)) := (blk_cell BK139.out 2).trans rfl; have hfz45_0 := blk_frozen BK139.out 0; have hfz45_1 := blk_frozen BK139.out 1; have hfz45_2 := blk_frozen BK139.out 2) | (go_at_call 40; (first | (with_reducible refine (strings_Trim.calls (t137.extract ((((rd_T29 l0 x29_2).f1).size : Int) : Int).toNat ((wrap64 (8 - t141)) : Int).toNat) (⟨#[48]⟩ : ByteArray) t142 _ A26.out).mono ?_) | (refine calls_of_args (args' := #[.string (t137.extract ((((rd_T29 l0 x29_2).f1).size : Int) : Int).toNat ((wrap64 (8 - t141)) : Int).toNat), .string (⟨#[48]⟩ : ByteArray)]) (zq37) ?_; (with_reducible refine (strings_Trim.calls (t137.extract ((((rd_T29 l0 x29_2).f1).size : Int) : Int).toNat ((wrap64 (8 - t141)) : Int).toNat) (⟨#[48]⟩ : ByteArray) t142 _ A26.out).mono ?_))); rintro e w46 ⟨rfl, hb⟩; replace BK139 := Aside0.mk (blk_below (g := gb139) (o := .cells #[.string ((rd_T29 l0 x29_2).f0), .string ((rd_T29 l0 x29_2).f1), .int .i64 ((rd_T29 l0 x29_2).f2)] 29 (0, 0)) (zq36) hb); replace HB := Aside0.mk (below_step (zq35) hb); (try clear hb); (try clear hb2); (try clear hk); (try clear hi))); try go_wp2_with (first | ((with_reducible refine gate_dst (N := 10) rfl ?_); refine box_event ?hg (N := 10) ?hd (cs := #[.string (⟨#[]⟩ : ByteArray), .string (⟨#[]⟩ : ByteArray), .int .i64 0]) (t := 29) ?hr ?_; (case hd => rfl); (case hg => rfl); (case hr => exact zq3); intro gb139 hg w40 hbox hb; have BK139 := Aside0.mk (hbox); have GW139 := Aside0.mk ((zq4 : w.heap.size ≤ gb139)); have GE139 := Aside0.mk ((zq4 : w.heap.size ≤ gb139)); replace HB := Aside0.mk (below_step (zq5) hb); clear hb hbox hg; have hcz41_0 : w40.cell? ⟨gb139, 0, none⟩ = some (.string (⟨#[]⟩ : ByteArray)) := (blk_cell BK139.out 0).trans rfl; have hcz41_1 : w40.cell? ⟨gb139, 1, none⟩ = some (.string (⟨#[]⟩ : ByteArray)) := (blk_cell BK139.out 1).trans rfl; have hcz41_2 : w40.cell? ⟨gb139, 2, none⟩ = some (.int .i64 0) := (blk_cell BK139.out 2).trans rfl; have hfz41_0 := blk_frozen BK139.out 0; have hfz41_1 := blk_frozen BK139.out 1; have hfz41_2 := blk_frozen BK139.out 2) | (go_at_call 38; (with_reducible refine (strings_HasPrefix.calls t137 ((rd_T29 l0 x29_2).f1) true _ A19.out).mono ?_); rintro e w42 ⟨rfl, hb⟩; replace BK139 := Aside0.mk (blk_below (g := gb139) (o := .cells #[.string ((rd_T29 l0 x29_2).f0), .string ((rd_T29 l0 x29_2).f1), .int .i64 ((rd_T29 l0 x29_2).f2)] 29 (0, 0)) (zq34) hb); replace HB := Aside0.mk (below_step (zq35) hb); (try clear hb); (try clear hb2); (try clear hk); (try clear hi); have hcz43_0 : w42.cell? ⟨gb139, 0, none⟩ = some (.string ((rd_T29 l0 x29_2).f0)) := (blk_cell BK139.out 0).trans rfl; have hcz43_1 : w42.cell? ⟨gb139, 1, none⟩ = some (.string ((rd_T29 l0 x29_2).f1)) := (blk_cell BK139.out 1).trans rfl; have hcz43_2 : w42.cell? ⟨gb139, 2, none⟩ = some (.int .i64 ((rd_T29 l0 x29_2).f2)) := (blk_cell BK139.out 2).trans rfl; have hfz43_0 := blk_frozen BK139.out 0; have hfz43_1 := blk_frozen BK139.out 1; have hfz43_2 := blk_frozen BK139.out 2) | (go_at_call 39; (with_reducible refine (plan_room.calls ((rd_T29 l0 x29_2).f0) ((rd_T29 l0 x29_2).f1) ((rd_T29 l0 x29_2).f2) t141 _ A22.out).mono ?_); rintro e w44 ⟨rfl, hb⟩; replace BK139 := Aside0.mk (blk_below (g := gb139) (o := .cells #[.string ((rd_T29 l0 x29_2).f0), .string ((rd_T29 l0 x29_2).f1), .int .i64 ((rd_T29 l0 x29_2).f2)] 29 (0, 0)) (zq36) hb); replace HB := Aside0.mk (below_step (zq35) hb); (try clear hb); (try clear hb2); (try clear hk); (try clear hi); have hcz45_0 : w44.cell? ⟨gb139, 0, none⟩ = some (.string ((rd_T29 l0 x29_2).f0)) := (blk_cell BK139.out 0).trans rfl; have hcz45_1 : w44.cell? ⟨gb139, 1, none⟩ = some (.string ((rd_T29 l0 x29_2).f1)) := (blk_cell BK139.out 1).trans rfl; have hcz45_2 : w44.cell? ⟨gb139, 2, none⟩ = some (.int .i64 ((rd_T29 l0 x29_2).f2)) := (blk_cell BK139.out 2).trans rfl; have hfz45_0 := blk_frozen BK139.out 0; have hfz45_1 := blk_frozen BK139.out 1; have hfz45_2 := blk_frozen BK139.out 2) | (go_at_call 40; (first | (with_reducible refine (strings_Trim.calls (t137.extract ((((rd_T29 l0 x29_2).f1).size : Int) : Int).toNat ((wrap64 (8 - t141)) : Int).toNat) (⟨#[48]⟩ : ByteArray) t142 _ A26.out).mono ?_) | (refine calls_of_args (args' := #[.string (t137.extract ((((rd_T29 l0 x29_2).f1).size : Int) : Int).toNat ((wrap64 (8 - t141)) : Int).toNat), .string (⟨#[48]⟩ : ByteArray)]) (zq37) ?_; (with_reducible refine (strings_Trim.calls (t137.extract ((((rd_T29 l0 x29_2).f1).size : Int) : Int).toNat ((wrap64 (8 - t141)) : Int).toNat) (⟨#[48]⟩ : ByteArray) t142 _ A26.out).mono ?_))); rintro e w46 ⟨rfl, hb⟩; replace BK139 := Aside0.mk (blk_below (g := gb139) (o := .cells #[.string ((rd_T29 l0 x29_2).f0), .string ((rd_T29 l0 x29_2).f1), .int .i64 ((rd_T29 l0 x29_2).f2)] 29 (0, 0)) (zq36) hb); replace HB := Aside0.mk (below_step (zq35) hb); (try clear hb); (try clear hb2); (try clear hk); (try clear hi))))
      go_ret2
      exact ⟨zq6, zq35⟩
     rw [if_pos c27] at H
     have c27b0 : (t142.toList == ([] : List UInt8)) = true := beq_iff_eq.mpr c27
     have c27b1 : (t142.toList != ([] : List UInt8)) = false := bne_eq_false_iff_eq.mpr c27
     clear c27
     obtain ⟨ji28, hji28⟩ : ∃ j_ : Int, (wrap64 (8 - t141)) = j_ := ⟨_, rfl⟩
     replace H : (if 0 ≤ (ji28) then (if ((rd_T29 l0 x29_2).f0).size + (t137.extract ((ji28) : Int).toNat t137.size).size ≤ 9223372036854775807 then (some (((rd_T29 l0 x29_2).f0) ++ (t137.extract ((ji28) : Int).toNat t137.size), 0)) else (none)) else (none)) = some (r1, r2) := by first | (rw [hji28] at H; exact H) | (simp only [hji28] at H ⊢; exact H)
     (try rw [hji28] at c24b0)
     (try rw [hji28] at c24b1)
     (try rw [hji28] at c25b0)
     (try rw [hji28] at c25b1)
     (try rw [hji28] at A19)
     (try rw [hji28] at A22)
     (try rw [hji28] at A26)
     have hji28w : (IntKind.i64.wrap (8 - t141)) = ji28 := (i64_w _).trans hji28
     by_cases c29 : 0 ≤ (ji28)
     rotate_left
     ·rw [if_neg c29] at H
      exact absurd H (by simp)
     rw [if_pos c29] at H
     have c29b0 := eq_true c29
     have c29b1 : decide (0 ≤ (ji28)) = true := decide_eq_true c29
     clear c29
     have c30b0 := eq_true (of_decide_eq_true (zq18) : (ji28) ≤ (t137.size : Int))
     by_cases c31 : ((rd_T29 l0 x29_2).f0).size + (t137.extract ((ji28) : Int).toNat t137.size).size ≤ 9223372036854775807
     rotate_left
     ·rw [if_neg c31] at H
      exact absurd H (by simp)
     rw [if_pos c31] at H
     have c31b0 := eq_true c31
     have c31b1 : decide (((rd_T29 l0 x29_2).f0).size + (t137.extract ((ji28) : Int).toNat t137.size).size ≤ 9223372036854775807) = true := decide_eq_true c31
     try have c31b2 : (9223372036854775807 < ((rd_T29 l0 x29_2).f0).size + (t137.extract ((ji28) : Int).toNat t137.size).size) = False := eq_false (Nat.not_lt.2 c31)
     simp only [Option.some.injEq, Prod.mk.injEq] at H
     obtain ⟨rfl, rfl⟩ := H
     have p138 : 0 ≤ (x29_2 : Int) := of_decide_eq_true (zq18)
     have q138 : x29_2 < (l0.length : Int) := of_decide_eq_true (zq18)
     obtain ⟨ad138, e138, hx138_0, hx138_1, hx138_2⟩ := at_T29 HR0.out x29_2 p138 q138
     cases e138
     replace hx138_0 := (HB.out.cell (World.block_lt_of_cell? w _ hx138_0)).trans hx138_0
     replace hx138_1 := (HB.out.cell (World.block_lt_of_cell? w _ hx138_1)).trans hx138_1
     replace hx138_2 := (HB.out.cell (World.block_lt_of_cell? w _ hx138_2)).trans hx138_2
     replace p138 := eq_true p138
     replace q138 := eq_true q138
     go_wp2_with (first | ((with_reducible refine gate_dst (N := 10) rfl ?_); refine box_event ?hg (N := 10) ?hd (cs := #[.string (⟨#[]⟩ : ByteArray), .string (⟨#[]⟩ : ByteArray), .int .i64 0]) (t := 29) ?hr ?_; (case hd => rfl); (case hg => rfl); (case hr => exact zq3); intro gb139 hg w32 hbox hb; have BK139 := Aside0.mk (hbox); have GW139 := Aside0.mk ((zq4 : w.heap.size ≤ gb139)); have GE139 := Aside0.mk ((zq4 : w.heap.size ≤ gb139)); replace HB := Aside0.mk (below_step (zq5) hb); clear hb hbox hg; have hcz33_0 : w32.cell? ⟨gb139, 0, none⟩ = some (.string (⟨#[]⟩ : ByteArray)) := (blk_cell BK139.out 0).trans rfl; have hcz33_1 : w32.cell? ⟨gb139, 1, none⟩ = some (.string (⟨#[]⟩ : ByteArray)) := (blk_cell BK139.out 1).trans rfl; have hcz33_2 : w32.cell? ⟨gb139, 2, none⟩ = some (.int .i64 0) := (blk_cell BK139.out 2).trans rfl; have hfz33_0 := blk_frozen BK139.out 0; have hfz33_1 := blk_frozen BK139.out 1; have hfz33_2 := blk_frozen BK139.out 2) | (go_at_call 38; (with_reducible refine (strings_HasPrefix.calls t137 ((rd_T29 l0 x29_2).f1) true _ A19.out).mono ?_); rintro e w34 ⟨rfl, hb⟩; replace BK139 := Aside0.mk (blk_below (g := gb139) (o := .cells #[.string ((rd_T29 l0 x29_2).f0), .string ((rd_T29 l0 x29_2).f1), .int .i64 ((rd_T29 l0 x29_2).f2)] 29 (0, 0)) (zq34) hb); replace HB := Aside0.mk (below_step (zq35) hb); (try clear hb); (try clear hb2); (try clear hk); (try clear hi); have hcz35_0 : w34.cell? ⟨gb139, 0, none⟩ = some (.string ((rd_T29 l0 x29_2).f0)) := (blk_cell BK139.out 0).trans rfl; have hcz35_1 : w34.cell? ⟨gb139, 1, none⟩ = some (.string ((rd_T29 l0 x29_2).f1)) := (blk_cell BK139.out 1).trans rfl; have hcz35_2 : w34.cell? ⟨gb139, 2, none⟩ = some (.int .i64 ((rd_T29 l0 x29_2).f2)) := (blk_cell BK139.out 2).trans rfl; have hfz35_0 := blk_frozen BK139.out 0; have hfz35_1 := blk_frozen BK139.out 1; have hfz35_2 := blk_frozen BK139.out 2) | (go_at_call 39; (with_reducible refine (plan_room.calls ((rd_T29 l0 x29_2).f0) ((rd_T29 l0 x29_2).f1) ((rd_T29 l0 x29_2).f2) t141 _ A22.out).mono ?_); rintro e w36 ⟨rfl, hb⟩; replace BK139 := Aside0.mk (blk_below (g := gb139) (o := .cells #[.string ((rd_T29 l0 x29_2).f0), .string ((rd_T29 l0 x29_2).f1), .int .i64 ((rd_T29 l0 x29_2).f2)] 29 (0, 0)) (zq36) hb); replace HB := Aside0.mk (below_step (zq35) hb); (try clear hb); (try clear hb2); (try clear hk); (try clear hi); have hcz37_0 : w36.cell? ⟨gb139, 0, none⟩ = some (.string ((rd_T29 l0 x29_2).f0)) := (blk_cell BK139.out 0).trans rfl; have hcz37_1 : w36.cell? ⟨gb139, 1, none⟩ = some (.string ((rd_T29 l0 x29_2).f1)) := (blk_cell BK139.out 1).trans rfl; have hcz37_2 : w36.cell? ⟨gb139, 2, none⟩ = some (.int .i64 ((rd_T29 l0 x29_2).f2)) := (blk_cell BK139.out 2).trans rfl; have hfz37_0 := blk_frozen BK139.out 0; have hfz37_1 := blk_frozen BK139.out 1; have hfz37_2 := blk_frozen BK139.out 2) | (go_at_call 40; (first | (with_reducible refine (strings_Trim.calls (t137.extract ((((rd_T29 l0 x29_2).f1).size : Int) : Int).toNat ((ji28) : Int).toNat) (⟨#[48]⟩ : ByteArray) t142 _ A26.out).mono ?_) | (refine calls_of_args (args' := #[.string (t137.extract ((((rd_T29 l0 x29_2).f1).size : Int) : Int).toNat ((ji28) : Int).toNat), .string (⟨#[48]⟩ : ByteArray)]) (zq37) ?_; (with_reducible refine (strings_Trim.calls (t137.extract ((((rd_T29 l0 x29_2).f1).size : Int) : Int).toNat ((ji28) : Int).toNat) (⟨#[48]⟩ : ByteArray) t142 _ A26.out).mono ?_))); rintro e w38 ⟨rfl, hb⟩; replace BK139 := Aside0.mk (blk_below (g := gb139) (o := .cells #[.string ((rd_T29 l0 x29_2).f0), .string ((rd_T29 l0 x29_2).f1), .int .i64 ((rd_T29 l0 x29_2).f2)] 29 (0, 0)) (zq36) hb); replace HB := Aside0.mk (below_step (zq35) hb); (try clear hb); (try clear hb2); (try clear hk); (try clear hi); have hcz39_0 : w38.cell? ⟨gb139, 0, none⟩ = some (.string ((rd_T29 l0 x29_2).f0)) := (blk_cell BK139.out 0).trans rfl; have hcz39_1 : w38.cell? ⟨gb139, 1, none⟩ = some (.string ((rd_T29 l0 x29_2).f1)) := (blk_cell BK139.out 1).trans rfl; have hcz39_2 : w38.cell? ⟨gb139, 2, none⟩ = some (.int .i64 ((rd_T29 l0 x29_2).f2)) := (blk_cell BK139.out 2).trans rfl; have hfz39_0 := blk_frozen BK139.out 0; have hfz39_1 := blk_frozen BK139.out 1; have hfz39_2 := blk_frozen BK139.out 2))
     repeat (go_quiet (first | ((with_reducible refine gate_dst (N := 10) rfl ?_); refine box_event ?hg (N := 10) ?hd (cs := #[.string (⟨#[]⟩ : ByteArray), .string (⟨#[]⟩ : ByteArray), .int .i64 0]) (t := 29) ?hr ?_; (case hd => rfl); (case hg => rfl); (case hr => exact zq3); intro gb139 hg w32 hbox hb; have BK139 := Aside0.mk (hbox); have GW139 := Aside0.mk ((zq4 : w.heap.size ≤ gb139)); have GE139 := Aside0.mk ((zq4 : w.heap.size ≤ gb139)); replace HB := Aside0.mk (below_step (zq5) hb); clear hb hbox hg; have hcz33_0 : w32.cell? ⟨gb139, 0, none⟩ = some (.string (⟨#[]⟩ : ByteArray)) := (blk_cell BK139.out 0).trans rfl; have hcz33_1 : w32.cell? ⟨gb139, 1, none⟩ = some (.string (⟨#[]⟩ : ByteArray)) := (blk_cell BK139.out 1).trans rfl; have hcz33_2 : w32.cell? ⟨gb139, 2, none⟩ = some (.int .i64 0) := (blk_cell BK139.out 2).trans rfl; have hfz33_0 := blk_frozen BK139.out 0; have hfz33_1 := blk_frozen BK139.out 1; have hfz33_2 := blk_frozen BK139.out 2) | (go_at_call 38; (with_reducible refine (strings_HasPrefix.calls t137 ((rd_T29 l0 x29_2).f1) true _ A19.out).mono ?_); rintro e w34 ⟨rfl, hb⟩; replace BK139 := Aside0.mk (blk_below (g := gb139) (o := .cells #[.string ((rd_T29 l0 x29_2).f0), .string ((rd_T29 l0 x29_2).f1), .int .i64 ((rd_T29 l0 x29_2).f2)] 29 (0, 0)) (zq34) hb); replace HB := Aside0.mk (below_step (zq35) hb); (try clear hb); (try clear hb2); (try clear hk); (try clear hi); have hcz35_0 : w34.cell? ⟨gb139, 0, none⟩ = some (.string ((rd_T29 l0 x29_2).f0)) := (blk_cell BK139.out 0).trans rfl; have hcz35_1 : w34.cell? ⟨gb139, 1, none⟩ = some (.string ((rd_T29 l0 x29_2).f1)) := (blk_cell BK139.out 1).trans rfl; have hcz35_2 : w34.cell? ⟨gb139, 2, none⟩ = some (.int .i64 ((rd_T29 l0 x29_2).f2)) := (blk_cell BK139.out 2).trans rfl; have hfz35_0 := blk_frozen BK139.out 0; have hfz35_1 := blk_frozen BK139.out 1; have hfz35_2 := blk_frozen BK139.out 2) | (go_at_call 39; (with_reducible refine (plan_room.calls ((rd_T29 l0 x29_2).f0) ((rd_T29 l0 x29_2).f1) ((rd_T29 l0 x29_2).f2) t141 _ A22.out).mono ?_); rintro e w36 ⟨rfl, hb⟩; replace BK139 := Aside0.mk (blk_below (g := gb139) (o := .cells #[.string ((rd_T29 l0 x29_2).f0), .string ((rd_T29 l0 x29_2).f1), .int .i64 ((rd_T29 l0 x29_2).f2)] 29 (0, 0)) (zq36) hb); replace HB := Aside0.mk (below_step (zq35) hb); (try clear hb); (try clear hb2); (try clear hk); (try clear hi); have hcz37_0 : w36.cell? ⟨gb139, 0, none⟩ = some (.string ((rd_T29 l0 x29_2).f0)) := (blk_cell BK139.out 0).trans rfl; have hcz37_1 : w36.cell? ⟨gb139, 1, none⟩ = some (.string ((rd_T29 l0 x29_2).f1)) := (blk_cell BK139.out 1).trans rfl; have hcz37_2 : w36.cell? ⟨gb139, 2, none⟩ = some (.int .i64 ((rd_T29 l0 x29_2).f2)) := (blk_cell BK139.out 2).trans rfl; have hfz37_0 := blk_frozen BK139.out 0; have hfz37_1 := blk_frozen BK139.out 1; have hfz37_2 := blk_frozen BK139.out 2) | (go_at_call 40; (first | (with_reducible refine (strings_Trim.calls (t137.extract ((((rd_T29 l0 x29_2).f1).size : Int) : Int).toNat ((ji28) : Int).toNat) (⟨#[48]⟩ : ByteArray) t142 _ A26.out).mono ?_) | (refine calls_of_args (args' := #[.string (t137.extract ((((rd_T29 l0 x29_2).f1).size : Int) : Int).toNat ((ji28) : Int).toNat), .string (⟨#[48]⟩ : ByteArray)]) (zq37) ?_; (with_reducible refine (strings_Trim.calls (t137.extract ((((rd_T29 l0 x29_2).f1).size : Int) : Int).toNat ((ji28) : Int).toNat) (⟨#[48]⟩ : ByteArray) t142 _ A26.out).mono ?_))); rintro e w38 ⟨rfl, hb⟩; replace BK139 := Aside0.mk (blk_below (g := gb139) (o := .cells #[.string ((rd_T29 l0 x29_2).f0), .string ((rd_T29 l0 x29_2).f1), .int .i64 ((rd_T29 l0 x29_2).f2)] 29 (0, 0)) (zq36) hb); replace HB := Aside0.mk (below_step (zq35) hb); (try clear hb); (try clear hb2); (try clear hk); (try clear hi); have hcz39_0 : w38.cell? ⟨gb139, 0, none⟩ = some (.string ((rd_T29 l0 x29_2).f0)) := (blk_cell BK139.out 0).trans rfl; have hcz39_1 : w38.cell? ⟨gb139, 1, none⟩ = some (.string ((rd_T29 l0 x29_2).f1)) := (blk_cell BK139.out 1).trans rfl; have hcz39_2 : w38.cell? ⟨gb139, 2, none⟩ = some (.int .i64 ((rd_T29 l0 x29_2).f2)) := (blk_cell BK139.out 2).trans rfl; have hfz39_0 := blk_frozen BK139.out 0; have hfz39_1 := blk_frozen BK139.out 1; have hfz39_2 := blk_frozen BK139.out 2)); try go_wp2_with (first | ((with_reducible refine gate_dst (N := 10) rfl ?_); refine box_event ?hg (N := 10) ?hd (cs := #[.string (⟨#[]⟩ : ByteArray), .string (⟨#[]⟩ : ByteArray), .int .i64 0]) (t := 29) ?hr ?_; (case hd => rfl); (case hg => rfl); (case hr => exact zq3); intro gb139 hg w32 hbox hb; have BK139 := Aside0.mk (hbox); have GW139 := Aside0.mk ((zq4 : w.heap.size ≤ gb139)); have GE139 := Aside0.mk ((zq4 : w.heap.size ≤ gb139)); replace HB := Aside0.mk (below_step (zq5) hb); clear hb hbox hg; have hcz33_0 : w32.cell? ⟨gb139, 0, none⟩ = some (.string (⟨#[]⟩ : ByteArray)) := (blk_cell BK139.out 0).trans rfl; have hcz33_1 : w32.cell? ⟨gb139, 1, none⟩ = some (.string (⟨#[]⟩ : ByteArray)) := (blk_cell BK139.out 1).trans rfl; have hcz33_2 : w32.cell? ⟨gb139, 2, none⟩ = some (.int .i64 0) := (blk_cell BK139.out 2).trans rfl; have hfz33_0 := blk_frozen BK139.out 0; have hfz33_1 := blk_frozen BK139.out 1; have hfz33_2 := blk_frozen BK139.out 2) | (go_at_call 38; (with_reducible refine (strings_HasPrefix.calls t137 ((rd_T29 l0 x29_2).f1) true _ A19.out).mono ?_); rintro e w34 ⟨rfl, hb⟩; replace BK139 := Aside0.mk (blk_below (g := gb139) (o := .cells #[.string ((rd_T29 l0 x29_2).f0), .string ((rd_T29 l0 x29_2).f1), .int .i64 ((rd_T29 l0 x29_2).f2)] 29 (0, 0)) (zq34) hb); replace HB := Aside0.mk (below_step (zq35) hb); (try clear hb); (try clear hb2); (try clear hk); (try clear hi); have hcz35_0 : w34.cell? ⟨gb139, 0, none⟩ = some (.string ((rd_T29 l0 x29_2).f0)) := (blk_cell BK139.out 0).trans rfl; have hcz35_1 : w34.cell? ⟨gb139, 1, none⟩ = some (.string ((rd_T29 l0 x29_2).f1)) := (blk_cell BK139.out 1).trans rfl; have hcz35_2 : w34.cell? ⟨gb139, 2, none⟩ = some (.int .i64 ((rd_T29 l0 x29_2).f2)) := (blk_cell BK139.out 2).trans rfl; have hfz35_0 := blk_frozen BK139.out 0; have hfz35_1 := blk_frozen BK139.out 1; have hfz35_2 := blk_frozen BK139.out 2) | (go_at_call 39; (with_reducible refine (plan_room.calls ((rd_T29 l0 x29_2).f0) ((rd_T29 l0 x29_2).f1) ((rd_T29 l0 x29_2).f2) t141 _ A22.out).mono ?_); rintro e w36 ⟨rfl, hb⟩; replace BK139 := Aside0.mk (blk_below (g := gb139) (o := .cells #[.string ((rd_T29 l0 x29_2).f0), .string ((rd_T29 l0 x29_2).f1), .int .i64 ((rd_T29 l0 x29_2).f2)] 29 (0, 0)) (zq36) hb); replace HB := Aside0.mk (below_step (zq35) hb); (try clear hb); (try clear hb2); (try clear hk); (try clear hi); have hcz37_0 : w36.cell? ⟨gb139, 0, none⟩ = some (.string ((rd_T29 l0 x29_2).f0)) := (blk_cell BK139.out 0).trans rfl; have hcz37_1 : w36.cell? ⟨gb139, 1, none⟩ = some (.string ((rd_T29 l0 x29_2).f1)) := (blk_cell BK139.out 1).trans rfl; have hcz37_2 : w36.cell? ⟨gb139, 2, none⟩ = some (.int .i64 ((rd_T29 l0 x29_2).f2)) := (blk_cell BK139.out 2).trans rfl; have hfz37_0 := blk_frozen BK139.out 0; have hfz37_1 := blk_frozen BK139.out 1; have hfz37_2 := blk_frozen BK139.out 2) | (go_at_call 40; (first | (with_reducible refine (strings_Trim.calls (t137.extract ((((rd_T29 l0 x29_2).f1).size : Int) : Int).toNat ((ji28) : Int).toNat) (⟨#[48]⟩ : ByteArray) t142 _ A26.out).mono ?_) | (refine calls_of_args (args' := #[.string (t137.extract ((((rd_T29 l0 x29_2).f1).size : Int) : Int).toNat ((ji28) : Int).toNat), .string (⟨#[48]⟩ : ByteArray)]) (zq37) ?_; (with_reducible refine (strings_Trim.calls (t137.extract ((((rd_T29 l0 x29_2).f1).size : Int) : Int).toNat ((ji28) : Int).toNat) (⟨#[48]⟩ : ByteArray) t142 _ A26.out).mono ?_))); rintro e w38 ⟨rfl, hb⟩; replace BK139 := Aside0.mk (blk_below (g := gb139) (o := .cells #[.string ((rd_T29 l0 x29_2).f0), .string ((rd_T29 l0 x29_2).f1), .int .i64 ((rd_T29 l0 x29_2).f2)] 29 (0, 0)) (zq36) hb); replace HB := Aside0.mk (below_step (zq35) hb); (try clear hb); (try clear hb2); (try clear hk); (try clear hi); have hcz39_0 : w38.cell? ⟨gb139, 0, none⟩ = some (.string ((rd_T29 l0 x29_2).f0)) := (blk_cell BK139.out 0).trans rfl; have hcz39_1 : w38.cell? ⟨gb139, 1, none⟩ = some (.string ((rd_T29 l0 x29_2).f1)) := (blk_cell BK139.out 1).trans rfl; have hcz39_2 : w38.cell? ⟨gb139, 2, none⟩ = some (.int .i64 ((rd_T29 l0 x29_2).f2)) := (blk_cell BK139.out 2).trans rfl; have hfz39_0 := blk_frozen BK139.out 0; have hfz39_1 := blk_frozen BK139.out 1; have hfz39_2 := blk_frozen BK139.out 2)))
     go_ret2
     exact ⟨by first | rfl | (simp [errW_none, errW_some] <;> rfl) | (simp only [← hji28]; first | rfl | (simp [errW_none, errW_some] <;> rfl)) | (simp [*, errW_none, errW_some] <;> rfl), zq35⟩
end Go.Proofs.YtlmfoblgheepoaaGreatDoor.Pl
end
section
open Go.Proofs.YtlmfoblgheepoaaGreatDoor.Z
namespace Go.Proofs.YtlmfoblgheepoaaGreatDoor.Pl
open Go.RowKit Go.Proofs.YtlmfoblgheepoaaGreatDoorW.PrintWords Go.Proofs.YtlmfoblgheepoaaGreatDoorW.PrintLast Go.Proofs.YtlmfoblgheepoaaGreatDoorW.PrintMore
attribute [local go_sem] max2_int min2_int max_two min_two max_three min_three max_four min_four
set_option linter.unusedVariables false
set_option linter.unusedSimpArgs false
def strconv_Atoi.f (s : ByteArray) : Option (Int × Option Int) :=
 if s.size ≤ 18 then (Lib.atoi s.data.toList).map fun n => (n, none) else none
theorem strconv_Atoi.calls (s : ByteArray) (r1 : Int) (r2 : Option Int) (w : World) (h : strconv_Atoi.f s = some (r1, r2)) :
 Calls Tryz.prog 45 #[.string s] w fun e w' => e = .returned (.tuple #[.int .i64 r1, errW r2]) ∧ Below w.heap.size w w' := by
 unfold strconv_Atoi.f at h
 split at h
 ·rename_i hc
  cases ha : Lib.atoi s.data.toList with
  | none => rw [ha] at h; cases h
  | some n =>
   rw [ha] at h
   obtain ⟨h1, h2⟩ := Prod.mk.inj (Option.some.inj h)
   subst h1 h2
   exact (Tryz.strconv_Atoi s n hc ha w).mono fun e w' ⟨he, t, hw⟩ => ⟨he, by rw [hw]; exact below_bytesW w _ _⟩
 ·cases h
end Go.Proofs.YtlmfoblgheepoaaGreatDoor.Pl
end
section
open Go.Proofs.YtlmfoblgheepoaaGreatDoor.Z
namespace Go.Proofs.YtlmfoblgheepoaaGreatDoor.Pl
open Go.RowKit Go.Proofs.YtlmfoblgheepoaaGreatDoorW.PrintWords Go.Proofs.YtlmfoblgheepoaaGreatDoorW.PrintLast Go.Proofs.YtlmfoblgheepoaaGreatDoorW.PrintMore
attribute [local go_sem] max2_int min2_int max_two min_two max_three min_three max_four min_four
set_option linter.unusedVariables false
set_option linter.unusedSimpArgs false
def plan_power.l0 : Nat → Int → Int → Int → Option (Int)
 | 0, _, _, _ => none
 | k + 1, x3, x4, x5 => if x5 < x4 then (plan_power.l0 k (wrap64 (x3 * 10)) x4 (wrap64 (x5 + 1))) else (some x3)
def plan_power.f (k : Nat) (a0 : Int) : Option (Int) := plan_power.l0 k 1 a0 0
theorem plan_power.mono_l : ∀ k, (∀ y0 y1 y2, LeO (plan_power.l0 k y0 y1 y2) (plan_power.l0 (k + 1) y0 y1 y2))
 | 0 => fun _ _ _ r h => by simp [plan_power.l0] at h
 | k + 1 => by
  have ih0 := plan_power.mono_l k
  ·intro y0 y1 y2
   unfold plan_power.l0
   repeat' first
   | (with_reducible exact ih0 _ _ _)
   | (with_reducible exact LeO.refl _)
   | (with_reducible exact LeO.none _)
   | (with_reducible refine LeO.ite ?_ ?_)
   | (with_reducible refine LeO.bind ?_ (fun _ => ?_))
   | exact ih0 _ _ _
   | exact LeO.none _
   | refine LeO.ite ?_ ?_
   | refine LeO.bind ?_ (fun _ => ?_)
theorem plan_power.mono : ∀ a0 k, LeO (plan_power.f k a0) (plan_power.f (k + 1) a0) := by
 intro a0 k
 have ih0 := plan_power.mono_l k
 unfold plan_power.f
 repeat' first
  | (with_reducible exact ih0 _ _ _)
  | (with_reducible exact LeO.refl _)
  | (with_reducible exact LeO.none _)
  | (with_reducible refine LeO.ite ?_ ?_)
  | (with_reducible refine LeO.bind ?_ (fun _ => ?_))
  | exact ih0 _ _ _
  | exact LeO.none _
  | refine LeO.ite ?_ ?_
  | refine LeO.bind ?_ (fun _ => ?_)
set_option maxHeartbeats 8000000 in
set_option maxRecDepth 100000 in
theorem plan_power.calls (k : Nat) (a0 : Int) (r : Int) (w : World) (h : plan_power.f k a0 = some r) :
 Calls Tryz.prog 46 #[.int .i64 a0] w fun e w' => e = .returned (.int .i64 r) ∧ Drawn0 w w' := by
 have H : (plan_power.l0 k 1 a0 0) = some r := h
 clear h
 have H' := Aside0.mk H
 clear H
 go_enter Tryz.func46, Tryz.ntmps46
 go_wp2
 go_loopg [3, 5] k (fun kq v3 v5 w' => ∃ (x3_1 : Int) (x5_1 : Int), v3 = .int .i64 x3_1 ∧ v5 = .int .i64 x5_1 ∧ Aside0 (plan_power.l0 kq x3_1 a0 x5_1 = some r) ∧ Aside0 (kq ≤ k) ∧ Drawn0 w w')
 case atStart => exact ⟨(1), (0), (zq1), (zq1), H', ⟨Nat.le_refl _⟩, zq2⟩
 case round =>
  clear H'
  obtain ⟨x3_1, x5_1, rfl, rfl, HA, HK1, ⟨m1, rfl⟩⟩ := hrel
  cases gk with
  | zero => exact absurd HA.out (by simp [plan_power.l0])
  | succ k1 =>
   have H := HA.out
   clear HA
   simp only [plan_power.l0] at H
   by_cases c2 : x5_1 < a0
   rotate_left
   ·rw [if_neg c2] at H
    have c2b0 : decide (x5_1 < a0) = false := decide_eq_false c2
    clear c2
    obtain rfl := Option.some.inj H
    go_wp2
    go_ret
    exact ⟨zq1, zq2⟩
   rw [if_pos c2] at H
   have c2b0 : decide (x5_1 < a0) = true := decide_eq_true c2
   clear c2
   have H' := Aside0.mk H
   clear H
   go_wp2
   go_roundg k1
   case measure => have := HK1.out; omega
   case rel => exact ⟨(wrap64 (x3_1 * 10)), (wrap64 (x5_1 + 1)), (zq1), (zq1), H', ⟨zq32⟩, zq2⟩
def plan_Range.j0 : Nat → List (S29) → Int → Int → Bool → Option (Int × Int × Int)
 | 0, _, _, _, _ => none
 | k + 1, x0, x1, x2, x28 => if x28 = true then (some (0, 0, 120)) else (if 0 ≤ x1 then (if x1 < (x0.length : Int) then ((strconv_Atoi.f ((rd_T29 x0 x1).f1)).bind fun bt149 => ((plan_power.f k (wrap64 (8 - (((rd_T29 x0 x1).f1).size : Int)))).bind fun t151 => (if x2 = 1 then ((plan_room.f ((rd_T29 x0 x1).f0) ((rd_T29 x0 x1).f1) ((rd_T29 x0 x1).f2)).bind fun t152 => ((plan_power.f k t152).bind fun t153 => (some (wrap64 (bt149.1 * t151), wrap64 ((wrap64 (bt149.1 * t151)) + t153), 0)))) else (some (wrap64 (bt149.1 * t151), wrap64 ((wrap64 (bt149.1 * t151)) + t151), 0))))) else (none)) else (none))
def plan_Range.f (k : Nat) (l0 : List (S29)) (a1 : Int) (a2 : Int) : Option (Int × Int × Int) := (plan_Valid.f k l0).bind fun t144 => (if t144 = true then ((plan_isWithin.f a1 0 (wrap64 ((l0.length : Int) - 1))).bind fun t145 => (if t145 = true then ((plan_isPhase.f a2).bind fun t146 => (plan_Range.j0 k l0 a1 a2 (!t146))) else (plan_Range.j0 k l0 a1 a2 true))) else (plan_Range.j0 k l0 a1 a2 true))
theorem plan_Range.mono_l : ∀ k, (∀ y0 y1 y2 y3, LeO (plan_Range.j0 k y0 y1 y2 y3) (plan_Range.j0 (k + 1) y0 y1 y2 y3))
 | 0 => fun _ _ _ _ r h => by simp [plan_Range.j0] at h
 | k + 1 => by
  have ih0 := plan_Range.mono_l k
  ·intro y0 y1 y2 y3
   unfold plan_Range.j0
   repeat' first
   | (with_reducible exact ih0 _ _ _ _)
   | (with_reducible exact plan_Valid.mono _ _)
   | (with_reducible exact plan_power.mono _ _)
   | (with_reducible exact LeO.refl _)
   | (with_reducible exact LeO.none _)
   | (with_reducible refine LeO.ite ?_ ?_)
   | (with_reducible refine LeO.bind ?_ (fun _ => ?_))
   | exact ih0 _ _ _ _
   | exact plan_Valid.mono _ _
   | exact plan_power.mono _ _
   | exact LeO.none _
   | refine LeO.ite ?_ ?_
   | refine LeO.bind ?_ (fun _ => ?_)
theorem plan_Range.mono : ∀ a0 a1 a2 k, LeO (plan_Range.f k a0 a1 a2) (plan_Range.f (k + 1) a0 a1 a2) := by
 intro a0 a1 a2 k
 have ih0 := plan_Range.mono_l k
 unfold plan_Range.f
 repeat' first
  | (with_reducible exact ih0 _ _ _ _)
  | (with_reducible exact plan_Valid.mono _ _)
  | (with_reducible exact plan_power.mono _ _)
  | (with_reducible exact LeO.refl _)
  | (with_reducible exact LeO.none _)
  | (with_reducible refine LeO.ite ?_ ?_)
  | (with_reducible refine LeO.bind ?_ (fun _ => ?_))
  | exact ih0 _ _ _ _
  | exact plan_Valid.mono _ _
  | exact plan_power.mono _ _
  | exact LeO.none _
  | refine LeO.ite ?_ ?_
  | refine LeO.bind ?_ (fun _ => ?_)
set_option maxHeartbeats 8000000 in
set_option maxRecDepth 100000 in
theorem plan_Range.calls (k : Nat) (A0 : Option Addr) (c0 : Nat) (l0 : List (S29)) (a1 : Int) (a2 : Int) (r1 : Int) (r2 : Int) (r3 : Int) (w : World) (hr0 : Kd.C k29 w A0 l0.length l0) (hc0 : l0.length ≤ c0) (h : plan_Range.f k l0 a1 a2 = some (r1, r2, r3)) :
 Calls Tryz.prog 19 #[.slice A0 l0.length c0, .int .i64 a1, .int .i64 a2] w fun e w' => e = .returned (.tuple #[.agg #[.int .i64 r1, .int .i64 r2], .int .i64 r3]) ∧ Below w.heap.size w w' := by
 have hu40 := Tryz.underlying40
 have hu29 := Tryz.underlying29
 have HR0 := Aside0.mk hr0
 have HC0 := Aside0.mk hc0
 clear hr0 hc0
 have HB := Aside0.mk (Below.refl w.heap.size w)
 have H : ((plan_Valid.f k l0).bind fun t144 => (if t144 = true then ((plan_isWithin.f a1 0 (wrap64 ((l0.length : Int) - 1))).bind fun t145 => (if t145 = true then ((plan_isPhase.f a2).bind fun t146 => (plan_Range.j0 k l0 a1 a2 (!t146))) else (plan_Range.j0 k l0 a1 a2 true))) else (plan_Range.j0 k l0 a1 a2 true))) = some (r1, r2, r3) := h
 clear h
 have HC4 := Aside0.mk H
 clear H
 go_enter Tryz.func19, Tryz.ntmps19
 go_upto_region 1 with (first | ((with_reducible refine gate_dst (N := 6) rfl ?_); (try (refine gate_guard (by rfl) ?_; dsimp only)); refine box_event ?hg (N := 6) ?hd (cs := #[.int .i64 0, .int .i64 0]) (t := 40) ?hr ?_; (case hd => rfl); (case hg => rfl); (case hr => exact zq3); intro gb143 hg w5 hbox hb; have BK143 := Aside0.mk (hbox); have GW143 := Aside0.mk ((zq4 : w.heap.size ≤ gb143)); have GE143 := Aside0.mk ((zq4 : w.heap.size ≤ gb143)); replace HB := Aside0.mk (below_step (zq5) hb); clear hb hbox hg))
 repeat (go_quiet (first | ((with_reducible refine gate_dst (N := 6) rfl ?_); (try (refine gate_guard (by rfl) ?_; dsimp only)); refine box_event ?hg (N := 6) ?hd (cs := #[.int .i64 0, .int .i64 0]) (t := 40) ?hr ?_; (case hd => rfl); (case hg => rfl); (case hr => exact zq3); intro gb143 hg w5 hbox hb; have BK143 := Aside0.mk (hbox); have GW143 := Aside0.mk ((zq4 : w.heap.size ≤ gb143)); have GE143 := Aside0.mk ((zq4 : w.heap.size ≤ gb143)); replace HB := Aside0.mk (below_step (zq5) hb); clear hb hbox hg)); go_upto_region 1 with (first | ((with_reducible refine gate_dst (N := 6) rfl ?_); (try (refine gate_guard (by rfl) ?_; dsimp only)); refine box_event ?hg (N := 6) ?hd (cs := #[.int .i64 0, .int .i64 0]) (t := 40) ?hr ?_; (case hd => rfl); (case hg => rfl); (case hr => exact zq3); intro gb143 hg w5 hbox hb; have BK143 := Aside0.mk (hbox); have GW143 := Aside0.mk ((zq4 : w.heap.size ≤ gb143)); have GE143 := Aside0.mk ((zq4 : w.heap.size ≤ gb143)); replace HB := Aside0.mk (below_step (zq5) hb); clear hb hbox hg)))
 (try simp only [Act.put, List.setIfInBounds_toArray, List.set_cons_zero, List.set_cons_succ])
 go_cut [28] (fun v28 wc => ∃ (kq : Nat) (x28_3 : Bool), v28 = .bool x28_3 ∧ Aside0 (plan_Range.j0 kq l0 a1 a2 x28_3 = some (r1, r2, r3)) ∧ Aside0 (kq ≤ k) ∧ Aside0 (wc.heap[gb143]? = some (.cells #[.int .i64 0, .int .i64 0] 40 (0, 0))) ∧ Aside0 (Below w.heap.size w wc))
 case first =>
  have H := HC4.out
  clear HC4
  replace H := Option.bind_eq_some_iff.mp H
  obtain ⟨t144, A60, H⟩ := H
  replace H : (if t144 = true then ((plan_isWithin.f a1 0 (wrap64 ((l0.length : Int) - 1))).bind fun t145 => (if t145 = true then ((plan_isPhase.f a2).bind fun t146 => (plan_Range.j0 k l0 a1 a2 (!t146))) else (plan_Range.j0 k l0 a1 a2 true))) else (plan_Range.j0 k l0 a1 a2 true)) = some (r1, r2, r3) := H
  have A6 := Aside0.mk A60
  clear A60
  by_cases c7 : t144 = true
  rotate_left
  ·replace c7 := Bool.eq_false_iff.mpr c7
   subst c7
   have H1 : (plan_Range.j0 k l0 a1 a2 true) = some (r1, r2, r3) := by rw [if_neg (show ¬ (false = true) by decide)] at H; exact H
   clear H
   have H := H1
   clear H1
   have H' := Aside0.mk H
   clear H
   go_wp2_with (first | (go_at_call 25; (with_reducible refine (plan_Valid.calls k _ _ l0 false _ ?side1 ?side2 A6.out).mono ?_); (case side1 => exact zq28); (case side2 => exact zq29); rintro e w13 ⟨rfl, hb⟩; replace BK143 := Aside0.mk (blk_below (g := gb143) (o := .cells #[.int .i64 0, .int .i64 0] 40 (0, 0)) (zq38) hb); replace HB := Aside0.mk (below_step (zq39) hb); (try clear hb); (try clear hb2); (try clear hk); (try clear hi)))
   repeat (go_quiet (first | (go_at_call 25; (with_reducible refine (plan_Valid.calls k _ _ l0 false _ ?side1 ?side2 A6.out).mono ?_); (case side1 => exact zq28); (case side2 => exact zq29); rintro e w13 ⟨rfl, hb⟩; replace BK143 := Aside0.mk (blk_below (g := gb143) (o := .cells #[.int .i64 0, .int .i64 0] 40 (0, 0)) (zq38) hb); replace HB := Aside0.mk (below_step (zq39) hb); (try clear hb); (try clear hb2); (try clear hk); (try clear hi))); try go_wp2_with (first | (go_at_call 25; (with_reducible refine (plan_Valid.calls k _ _ l0 false _ ?side1 ?side2 A6.out).mono ?_); (case side1 => exact zq28); (case side2 => exact zq29); rintro e w13 ⟨rfl, hb⟩; replace BK143 := Aside0.mk (blk_below (g := gb143) (o := .cells #[.int .i64 0, .int .i64 0] 40 (0, 0)) (zq38) hb); replace HB := Aside0.mk (below_step (zq39) hb); (try clear hb); (try clear hb2); (try clear hk); (try clear hi))))
   go_meet
   case rel => exact ⟨_, (true), (zq1), H', ⟨zq10⟩, ⟨zq38⟩, ⟨zq39⟩⟩
  subst c7
  have H1 : ((plan_isWithin.f a1 0 (wrap64 ((l0.length : Int) - 1))).bind fun t145 => (if t145 = true then ((plan_isPhase.f a2).bind fun t146 => (plan_Range.j0 k l0 a1 a2 (!t146))) else (plan_Range.j0 k l0 a1 a2 true))) = some (r1, r2, r3) := by rw [if_pos rfl] at H; exact H
  clear H
  have H := H1
  clear H1
  replace H := Option.bind_eq_some_iff.mp H
  obtain ⟨t145, A80, H⟩ := H
  replace H : (if t145 = true then ((plan_isPhase.f a2).bind fun t146 => (plan_Range.j0 k l0 a1 a2 (!t146))) else (plan_Range.j0 k l0 a1 a2 true)) = some (r1, r2, r3) := H
  have A8 := Aside0.mk A80
  clear A80
  by_cases c9 : t145 = true
  rotate_left
  ·replace c9 := Bool.eq_false_iff.mpr c9
   subst c9
   have H1 : (plan_Range.j0 k l0 a1 a2 true) = some (r1, r2, r3) := by rw [if_neg (show ¬ (false = true) by decide)] at H; exact H
   clear H
   have H := H1
   clear H1
   have H' := Aside0.mk H
   clear H
   go_wp2_with (first | (go_at_call 25; (with_reducible refine (plan_Valid.calls k _ _ l0 true _ ?side1 ?side2 A6.out).mono ?_); (case side1 => exact zq28); (case side2 => exact zq29); rintro e w12 ⟨rfl, hb⟩; replace BK143 := Aside0.mk (blk_below (g := gb143) (o := .cells #[.int .i64 0, .int .i64 0] 40 (0, 0)) (zq38) hb); replace HB := Aside0.mk (below_step (zq39) hb); (try clear hb); (try clear hb2); (try clear hk); (try clear hi)) | (go_at_call 36; (with_reducible refine (plan_isWithin.calls a1 0 (wrap64 ((l0.length : Int) - 1)) false _ A8.out).mono ?_); rintro e w' ⟨rfl, ⟨nd, rfl⟩⟩; (try first | exact ⟨rfl, _, World.drewN_drewN _ _ _⟩ | exact ⟨rfl, _, Eq.trans (World.drewN_drewN _ _ _) (congrArg (World.drewN _) (Nat.add_assoc _ _ _))⟩)))
   repeat (go_quiet (first | (go_at_call 25; (with_reducible refine (plan_Valid.calls k _ _ l0 true _ ?side1 ?side2 A6.out).mono ?_); (case side1 => exact zq28); (case side2 => exact zq29); rintro e w12 ⟨rfl, hb⟩; replace BK143 := Aside0.mk (blk_below (g := gb143) (o := .cells #[.int .i64 0, .int .i64 0] 40 (0, 0)) (zq38) hb); replace HB := Aside0.mk (below_step (zq39) hb); (try clear hb); (try clear hb2); (try clear hk); (try clear hi)) | (go_at_call 36; (with_reducible refine (plan_isWithin.calls a1 0 (wrap64 ((l0.length : Int) - 1)) false _ A8.out).mono ?_); rintro e w' ⟨rfl, ⟨nd, rfl⟩⟩; (try first | exact ⟨rfl, _, World.drewN_drewN _ _ _⟩ | exact ⟨rfl, _, Eq.trans (World.drewN_drewN _ _ _) (congrArg (World.drewN _) (Nat.add_assoc _ _ _))⟩))); try go_wp2_with (first | (go_at_call 25; (with_reducible refine (plan_Valid.calls k _ _ l0 true _ ?side1 ?side2 A6.out).mono ?_); (case side1 => exact zq28); (case side2 => exact zq29); rintro e w12 ⟨rfl, hb⟩; replace BK143 := Aside0.mk (blk_below (g := gb143) (o := .cells #[.int .i64 0, .int .i64 0] 40 (0, 0)) (zq38) hb); replace HB := Aside0.mk (below_step (zq39) hb); (try clear hb); (try clear hb2); (try clear hk); (try clear hi)) | (go_at_call 36; (with_reducible refine (plan_isWithin.calls a1 0 (wrap64 ((l0.length : Int) - 1)) false _ A8.out).mono ?_); rintro e w' ⟨rfl, ⟨nd, rfl⟩⟩; (try first | exact ⟨rfl, _, World.drewN_drewN _ _ _⟩ | exact ⟨rfl, _, Eq.trans (World.drewN_drewN _ _ _) (congrArg (World.drewN _) (Nat.add_assoc _ _ _))⟩))))
   go_meet
   case rel => exact ⟨_, (true), (zq1), H', ⟨zq10⟩, ⟨zq38⟩, ⟨zq39⟩⟩
  subst c9
  have H1 : ((plan_isPhase.f a2).bind fun t146 => (plan_Range.j0 k l0 a1 a2 (!t146))) = some (r1, r2, r3) := by rw [if_pos rfl] at H; exact H
  clear H
  have H := H1
  clear H1
  replace H := Option.bind_eq_some_iff.mp H
  obtain ⟨t146, A100, H⟩ := H
  replace H : (plan_Range.j0 k l0 a1 a2 (!t146)) = some (r1, r2, r3) := H
  have A10 := Aside0.mk A100
  clear A100
  have H' := Aside0.mk H
  clear H
  go_wp2_with (first | (go_at_call 25; (with_reducible refine (plan_Valid.calls k _ _ l0 true _ ?side1 ?side2 A6.out).mono ?_); (case side1 => exact zq28); (case side2 => exact zq29); rintro e w11 ⟨rfl, hb⟩; replace BK143 := Aside0.mk (blk_below (g := gb143) (o := .cells #[.int .i64 0, .int .i64 0] 40 (0, 0)) (zq38) hb); replace HB := Aside0.mk (below_step (zq39) hb); (try clear hb); (try clear hb2); (try clear hk); (try clear hi)) | (go_at_call 36; (with_reducible refine (plan_isWithin.calls a1 0 (wrap64 ((l0.length : Int) - 1)) true _ A8.out).mono ?_); rintro e w' ⟨rfl, ⟨nd, rfl⟩⟩; (try first | exact ⟨rfl, _, World.drewN_drewN _ _ _⟩ | exact ⟨rfl, _, Eq.trans (World.drewN_drewN _ _ _) (congrArg (World.drewN _) (Nat.add_assoc _ _ _))⟩)) | (go_at_call 35; (with_reducible refine (plan_isPhase.calls a2 t146 _ A10.out).mono ?_); rintro e w' ⟨rfl, ⟨nd, rfl⟩⟩; (try first | exact ⟨rfl, _, World.drewN_drewN _ _ _⟩ | exact ⟨rfl, _, Eq.trans (World.drewN_drewN _ _ _) (congrArg (World.drewN _) (Nat.add_assoc _ _ _))⟩)))
  repeat (go_quiet (first | (go_at_call 25; (with_reducible refine (plan_Valid.calls k _ _ l0 true _ ?side1 ?side2 A6.out).mono ?_); (case side1 => exact zq28); (case side2 => exact zq29); rintro e w11 ⟨rfl, hb⟩; replace BK143 := Aside0.mk (blk_below (g := gb143) (o := .cells #[.int .i64 0, .int .i64 0] 40 (0, 0)) (zq38) hb); replace HB := Aside0.mk (below_step (zq39) hb); (try clear hb); (try clear hb2); (try clear hk); (try clear hi)) | (go_at_call 36; (with_reducible refine (plan_isWithin.calls a1 0 (wrap64 ((l0.length : Int) - 1)) true _ A8.out).mono ?_); rintro e w' ⟨rfl, ⟨nd, rfl⟩⟩; (try first | exact ⟨rfl, _, World.drewN_drewN _ _ _⟩ | exact ⟨rfl, _, Eq.trans (World.drewN_drewN _ _ _) (congrArg (World.drewN _) (Nat.add_assoc _ _ _))⟩)) | (go_at_call 35; (with_reducible refine (plan_isPhase.calls a2 t146 _ A10.out).mono ?_); rintro e w' ⟨rfl, ⟨nd, rfl⟩⟩; (try first | exact ⟨rfl, _, World.drewN_drewN _ _ _⟩ | exact ⟨rfl, _, Eq.trans (World.drewN_drewN _ _ _) (congrArg (World.drewN _) (Nat.add_assoc _ _ _))⟩))); try go_wp2_with (first | (go_at_call 25; (with_reducible refine (plan_Valid.calls k _ _ l0 true _ ?side1 ?side2 A6.out).mono ?_); (case side1 => exact zq28); (case side2 => exact zq29); rintro e w11 ⟨rfl, hb⟩; replace BK143 := Aside0.mk (blk_below (g := gb143) (o := .cells #[.int .i64 0, .int .i64 0] 40 (0, 0)) (zq38) hb); replace HB := Aside0.mk (below_step (zq39) hb); (try clear hb); (try clear hb2); (try clear hk); (try clear hi)) | (go_at_call 36; (with_reducible refine (plan_isWithin.calls a1 0 (wrap64 ((l0.length : Int) - 1)) true _ A8.out).mono ?_); rintro e w' ⟨rfl, ⟨nd, rfl⟩⟩; (try first | exact ⟨rfl, _, World.drewN_drewN _ _ _⟩ | exact ⟨rfl, _, Eq.trans (World.drewN_drewN _ _ _) (congrArg (World.drewN _) (Nat.add_assoc _ _ _))⟩)) | (go_at_call 35; (with_reducible refine (plan_isPhase.calls a2 t146 _ A10.out).mono ?_); rintro e w' ⟨rfl, ⟨nd, rfl⟩⟩; (try first | exact ⟨rfl, _, World.drewN_drewN _ _ _⟩ | exact ⟨rfl, _, Eq.trans (World.drewN_drewN _ _ _) (congrArg (World.drewN _) (Nat.add_assoc _ _ _))⟩))))
  go_meet
  case rel => exact ⟨_, (!t146), (zq1), H', ⟨zq10⟩, ⟨zq38⟩, ⟨zq39⟩⟩
 case rest =>
  clear HC4
  try clear c1
  try clear p2
  try clear p6
  try clear c7
  try clear c9
  obtain ⟨kq, x28_3, rfl, HA, HJ3, BK143, HB⟩ := hcut
  cases kq with
  | zero => exact absurd HA.out (by simp [plan_Range.j0])
  | succ kj3 =>
   have H := HA.out
   clear HA
   simp only [plan_Range.j0] at H
   by_cases c14 : x28_3 = true
   ·subst c14
    have H1 : (some (0, 0, 120)) = some (r1, r2, r3) := by rw [if_pos rfl] at H; exact H
    clear H
    have H := H1
    clear H1
    simp only [Option.some.injEq, Prod.mk.injEq] at H
    obtain ⟨rfl, rfl, rfl⟩ := H
    have hcz15_0 : wc.cell? ⟨gb143, 0, none⟩ = some (.int .i64 0) := (blk_cell BK143.out 0).trans rfl
    have hcz15_1 : wc.cell? ⟨gb143, 1, none⟩ = some (.int .i64 0) := (blk_cell BK143.out 1).trans rfl
    have hfz15_0 := blk_frozen BK143.out 0
    have hfz15_1 := blk_frozen BK143.out 1
    go_wp2
    repeat (go_quiet (fail); try go_wp2)
    refine bodyPost_ret (results_ct rfl _ _ gb143 40 #[.int .i64 0, .int .i64 0] (0, 0) _ rfl (by (with_reducible repeat (first | refine blk_drewN ?_ _ | refine blk_drew ?_ | refine blk_alloc ?_ _)); refine blk_put (cs := #[.int .i64 0, .int .i64 0]) ?_ 1 _ rfl; (with_reducible repeat (first | refine blk_drewN ?_ _ | refine blk_drew ?_ | refine blk_alloc ?_ _)); refine blk_put (cs := #[.int .i64 0, .int .i64 0]) ?_ 0 _ rfl; (with_reducible repeat (first | refine blk_drewN ?_ _ | refine blk_drew ?_ | refine blk_alloc ?_ _)); exact BK143.out) Tryz.underlying40 rfl (by kernel_rfl)) rfl ?_
    exact ⟨zq6, zq39⟩
   replace c14 := Bool.eq_false_iff.mpr c14
   subst c14
   have H1 : (if 0 ≤ a1 then (if a1 < (l0.length : Int) then ((strconv_Atoi.f ((rd_T29 l0 a1).f1)).bind fun bt149 => ((plan_power.f kj3 (wrap64 (8 - (((rd_T29 l0 a1).f1).size : Int)))).bind fun t151 => (if a2 = 1 then ((plan_room.f ((rd_T29 l0 a1).f0) ((rd_T29 l0 a1).f1) ((rd_T29 l0 a1).f2)).bind fun t152 => ((plan_power.f kj3 t152).bind fun t153 => (some (wrap64 (bt149.1 * t151), wrap64 ((wrap64 (bt149.1 * t151)) + t153), 0)))) else (some (wrap64 (bt149.1 * t151), wrap64 ((wrap64 (bt149.1 * t151)) + t151), 0))))) else (none)) else (none)) = some (r1, r2, r3) := by rw [if_neg (show ¬ (false = true) by decide)] at H; exact H
   clear H
   have H := H1
   clear H1
   by_cases c16 : 0 ≤ a1
   rotate_left
   ·rw [if_neg c16] at H
    exact absurd H (by simp)
   rw [if_pos c16] at H
   have c16b0 : decide (0 ≤ a1) = true := decide_eq_true c16
   clear c16
   by_cases c17 : a1 < (l0.length : Int)
   rotate_left
   ·rw [if_neg c17] at H
    exact absurd H (by simp)
   rw [if_pos c17] at H
   have c17b0 : decide (a1 < (l0.length : Int)) = true := decide_eq_true c17
   clear c17
   replace H := Option.bind_eq_some_iff.mp H
   obtain ⟨⟨t149, t150⟩, A180, H⟩ := H
   replace H : ((plan_power.f kj3 (wrap64 (8 - (((rd_T29 l0 a1).f1).size : Int)))).bind fun t151 => (if a2 = 1 then ((plan_room.f ((rd_T29 l0 a1).f0) ((rd_T29 l0 a1).f1) ((rd_T29 l0 a1).f2)).bind fun t152 => ((plan_power.f kj3 t152).bind fun t153 => (some (wrap64 (t149 * t151), wrap64 ((wrap64 (t149 * t151)) + t153), 0)))) else (some (wrap64 (t149 * t151), wrap64 ((wrap64 (t149 * t151)) + t151), 0)))) = some (r1, r2, r3) := H
   have A18 := Aside0.mk A180
   clear A180
   replace H := Option.bind_eq_some_iff.mp H
   obtain ⟨t151, A190, H⟩ := H
   replace H : (if a2 = 1 then ((plan_room.f ((rd_T29 l0 a1).f0) ((rd_T29 l0 a1).f1) ((rd_T29 l0 a1).f2)).bind fun t152 => ((plan_power.f kj3 t152).bind fun t153 => (some (wrap64 (t149 * t151), wrap64 ((wrap64 (t149 * t151)) + t153), 0)))) else (some (wrap64 (t149 * t151), wrap64 ((wrap64 (t149 * t151)) + t151), 0))) = some (r1, r2, r3) := H
   have A19 := Aside0.mk A190
   clear A190
   by_cases c20 : a2 = 1
   rotate_left
   ·rw [if_neg c20] at H
    have c20b0 : (a2 == 1) = false := beq_eq_false_iff_ne.mpr c20
    have c20b1 : (a2 != 1) = true := bne_iff_ne.mpr c20
    simp only [Option.some.injEq, Prod.mk.injEq] at H
    obtain ⟨rfl, rfl, rfl⟩ := H
    have p147 : 0 ≤ (a1 : Int) := of_decide_eq_true (zq18)
    have q147 : a1 < (l0.length : Int) := of_decide_eq_true (zq18)
    obtain ⟨ad147, e147, hx147_0, hx147_1, hx147_2⟩ := at_T29 HR0.out a1 p147 q147
    cases e147
    replace hx147_0 := (HB.out.cell (World.block_lt_of_cell? w _ hx147_0)).trans hx147_0
    replace hx147_1 := (HB.out.cell (World.block_lt_of_cell? w _ hx147_1)).trans hx147_1
    replace hx147_2 := (HB.out.cell (World.block_lt_of_cell? w _ hx147_2)).trans hx147_2
    replace p147 := eq_true p147
    replace q147 := eq_true q147
    go_wp2_with (first | ((with_reducible refine gate_dst (N := 8) rfl ?_); (try (refine gate_guard (by rfl) ?_; dsimp only)); refine box_event ?hg (N := 8) ?hd (cs := #[.string (⟨#[]⟩ : ByteArray), .string (⟨#[]⟩ : ByteArray), .int .i64 0]) (t := 29) ?hr ?_; (case hd => rfl); (case hg => rfl); (case hr => exact zq3); intro gb148 hg w30 hbox hb; have BK148 := Aside0.mk (hbox); have GW148 := Aside0.mk ((zq40 : w.heap.size ≤ gb148)); have GE148 := Aside0.mk ((zq40 : w.heap.size ≤ gb148)); replace HB := Aside0.mk (below_step (zq39) hb); have NB143_148 := Aside0.mk ((zq41 : gb143 ≠ gb148)); have NB148_143 := Aside0.mk ((zq42 : gb148 ≠ gb143)); replace BK143 := Aside0.mk (blk_below (g := gb143) (o := .cells #[.int .i64 0, .int .i64 0] 40 (0, 0)) (zq38) hb); clear hb hbox hg; have hnb31 := NB148_143.out; have hnc31 := NB143_148.out; have hcz32_0 : w30.cell? ⟨gb148, 0, none⟩ = some (.string (⟨#[]⟩ : ByteArray)) := (blk_cell BK148.out 0).trans rfl; have hcz32_1 : w30.cell? ⟨gb148, 1, none⟩ = some (.string (⟨#[]⟩ : ByteArray)) := (blk_cell BK148.out 1).trans rfl; have hcz32_2 : w30.cell? ⟨gb148, 2, none⟩ = some (.int .i64 0) := (blk_cell BK148.out 2).trans rfl; have hfz32_0 := blk_frozen BK148.out 0; have hfz32_1 := blk_frozen BK148.out 1; have hfz32_2 := blk_frozen BK148.out 2) | (go_at_call 45; (with_reducible refine (strconv_Atoi.calls ((rd_T29 l0 a1).f1) t149 t150 _ A18.out).mono ?_); rintro e w33 ⟨rfl, hb⟩; replace BK143 := Aside0.mk (blk_below (g := gb143) (o := .cells #[.int .i64 0, .int .i64 0] 40 (0, 0)) (zq43) hb); replace BK148 := Aside0.mk (blk_below (g := gb148) (o := .cells #[.string ((rd_T29 l0 a1).f0), .string ((rd_T29 l0 a1).f1), .int .i64 ((rd_T29 l0 a1).f2)] 29 (0, 0)) (zq44) hb); replace HB := Aside0.mk (below_step (zq45) hb); (try clear hb); (try clear hb2); (try clear hk); (try clear hi); (try simp only [errW_none, errW_some]); have hcz34_0 : w33.cell? ⟨gb148, 0, none⟩ = some (.string ((rd_T29 l0 a1).f0)) := (blk_cell BK148.out 0).trans rfl; have hcz34_1 : w33.cell? ⟨gb148, 1, none⟩ = some (.string ((rd_T29 l0 a1).f1)) := (blk_cell BK148.out 1).trans rfl; have hcz34_2 : w33.cell? ⟨gb148, 2, none⟩ = some (.int .i64 ((rd_T29 l0 a1).f2)) := (blk_cell BK148.out 2).trans rfl; have hfz34_0 := blk_frozen BK148.out 0; have hfz34_1 := blk_frozen BK148.out 1; have hfz34_2 := blk_frozen BK148.out 2; have hcz35_0 : w33.cell? ⟨gb143, 0, none⟩ = some (.int .i64 0) := (blk_cell BK143.out 0).trans rfl; have hcz35_1 : w33.cell? ⟨gb143, 1, none⟩ = some (.int .i64 0) := (blk_cell BK143.out 1).trans rfl; have hfz35_0 := blk_frozen BK143.out 0; have hfz35_1 := blk_frozen BK143.out 1) | (go_at_call 46; (with_reducible refine (plan_power.calls kj3 (wrap64 (8 - (((rd_T29 l0 a1).f1).size : Int))) t151 _ A19.out).mono ?_); rintro e w' ⟨rfl, ⟨nd, rfl⟩⟩; (try first | exact ⟨rfl, _, World.drewN_drewN _ _ _⟩ | exact ⟨rfl, _, Eq.trans (World.drewN_drewN _ _ _) (congrArg (World.drewN _) (Nat.add_assoc _ _ _))⟩)))
    repeat (go_quiet (first | ((with_reducible refine gate_dst (N := 8) rfl ?_); (try (refine gate_guard (by rfl) ?_; dsimp only)); refine box_event ?hg (N := 8) ?hd (cs := #[.string (⟨#[]⟩ : ByteArray), .string (⟨#[]⟩ : ByteArray), .int .i64 0]) (t := 29) ?hr ?_; (case hd => rfl); (case hg => rfl); (case hr => exact zq3); intro gb148 hg w30 hbox hb; have BK148 := Aside0.mk (hbox); have GW148 := Aside0.mk ((zq40 : w.heap.size ≤ gb148)); have GE148 := Aside0.mk ((zq40 : w.heap.size ≤ gb148)); replace HB := Aside0.mk (below_step (zq39) hb); have NB143_148 := Aside0.mk ((zq41 : gb143 ≠ gb148)); have NB148_143 := Aside0.mk ((zq42 : gb148 ≠ gb143)); replace BK143 := Aside0.mk (blk_below (g := gb143) (o := .cells #[.int .i64 0, .int .i64 0] 40 (0, 0)) (zq38) hb); clear hb hbox hg; have hnb31 := NB148_143.out; have hnc31 := NB143_148.out; have hcz32_0 : w30.cell? ⟨gb148, 0, none⟩ = some (.string (⟨#[]⟩ : ByteArray)) := (blk_cell BK148.out 0).trans rfl; have hcz32_1 : w30.cell? ⟨gb148, 1, none⟩ = some (.string (⟨#[]⟩ : ByteArray)) := (blk_cell BK148.out 1).trans rfl; have hcz32_2 : w30.cell? ⟨gb148, 2, none⟩ = some (.int .i64 0) := (blk_cell BK148.out 2).trans rfl; have hfz32_0 := blk_frozen BK148.out 0; have hfz32_1 := blk_frozen BK148.out 1; have hfz32_2 := blk_frozen BK148.out 2) | (go_at_call 45; (with_reducible refine (strconv_Atoi.calls ((rd_T29 l0 a1).f1) t149 t150 _ A18.out).mono ?_); rintro e w33 ⟨rfl, hb⟩; replace BK143 := Aside0.mk (blk_below (g := gb143) (o := .cells #[.int .i64 0, .int .i64 0] 40 (0, 0)) (zq43) hb); replace BK148 := Aside0.mk (blk_below (g := gb148) (o := .cells #[.string ((rd_T29 l0 a1).f0), .string ((rd_T29 l0 a1).f1), .int .i64 ((rd_T29 l0 a1).f2)] 29 (0, 0)) (zq44) hb); replace HB := Aside0.mk (below_step (zq45) hb); (try clear hb); (try clear hb2); (try clear hk); (try clear hi); (try simp only [errW_none, errW_some]); have hcz34_0 : w33.cell? ⟨gb148, 0, none⟩ = some (.string ((rd_T29 l0 a1).f0)) := (blk_cell BK148.out 0).trans rfl; have hcz34_1 : w33.cell? ⟨gb148, 1, none⟩ = some (.string ((rd_T29 l0 a1).f1)) := (blk_cell BK148.out 1).trans rfl; have hcz34_2 : w33.cell? ⟨gb148, 2, none⟩ = some (.int .i64 ((rd_T29 l0 a1).f2)) := (blk_cell BK148.out 2).trans rfl; have hfz34_0 := blk_frozen BK148.out 0; have hfz34_1 := blk_frozen BK148.out 1; have hfz34_2 := blk_frozen BK148.out 2; have hcz35_0 : w33.cell? ⟨gb143, 0, none⟩ = some (.int .i64 0) := (blk_cell BK143.out 0).trans rfl; have hcz35_1 : w33.cell? ⟨gb143, 1, none⟩ = some (.int .i64 0) := (blk_cell BK143.out 1).trans rfl; have hfz35_0 := blk_frozen BK143.out 0; have hfz35_1 := blk_frozen BK143.out 1) | (go_at_call 46; (with_reducible refine (plan_power.calls kj3 (wrap64 (8 - (((rd_T29 l0 a1).f1).size : Int))) t151 _ A19.out).mono ?_); rintro e w' ⟨rfl, ⟨nd, rfl⟩⟩; (try first | exact ⟨rfl, _, World.drewN_drewN _ _ _⟩ | exact ⟨rfl, _, Eq.trans (World.drewN_drewN _ _ _) (congrArg (World.drewN _) (Nat.add_assoc _ _ _))⟩))); try go_wp2_with (first | ((with_reducible refine gate_dst (N := 8) rfl ?_); (try (refine gate_guard (by rfl) ?_; dsimp only)); refine box_event ?hg (N := 8) ?hd (cs := #[.string (⟨#[]⟩ : ByteArray), .string (⟨#[]⟩ : ByteArray), .int .i64 0]) (t := 29) ?hr ?_; (case hd => rfl); (case hg => rfl); (case hr => exact zq3); intro gb148 hg w30 hbox hb; have BK148 := Aside0.mk (hbox); have GW148 := Aside0.mk ((zq40 : w.heap.size ≤ gb148)); have GE148 := Aside0.mk ((zq40 : w.heap.size ≤ gb148)); replace HB := Aside0.mk (below_step (zq39) hb); have NB143_148 := Aside0.mk ((zq41 : gb143 ≠ gb148)); have NB148_143 := Aside0.mk ((zq42 : gb148 ≠ gb143)); replace BK143 := Aside0.mk (blk_below (g := gb143) (o := .cells #[.int .i64 0, .int .i64 0] 40 (0, 0)) (zq38) hb); clear hb hbox hg; have hnb31 := NB148_143.out; have hnc31 := NB143_148.out; have hcz32_0 : w30.cell? ⟨gb148, 0, none⟩ = some (.string (⟨#[]⟩ : ByteArray)) := (blk_cell BK148.out 0).trans rfl; have hcz32_1 : w30.cell? ⟨gb148, 1, none⟩ = some (.string (⟨#[]⟩ : ByteArray)) := (blk_cell BK148.out 1).trans rfl; have hcz32_2 : w30.cell? ⟨gb148, 2, none⟩ = some (.int .i64 0) := (blk_cell BK148.out 2).trans rfl; have hfz32_0 := blk_frozen BK148.out 0; have hfz32_1 := blk_frozen BK148.out 1; have hfz32_2 := blk_frozen BK148.out 2) | (go_at_call 45; (with_reducible refine (strconv_Atoi.calls ((rd_T29 l0 a1).f1) t149 t150 _ A18.out).mono ?_); rintro e w33 ⟨rfl, hb⟩; replace BK143 := Aside0.mk (blk_below (g := gb143) (o := .cells #[.int .i64 0, .int .i64 0] 40 (0, 0)) (zq43) hb); replace BK148 := Aside0.mk (blk_below (g := gb148) (o := .cells #[.string ((rd_T29 l0 a1).f0), .string ((rd_T29 l0 a1).f1), .int .i64 ((rd_T29 l0 a1).f2)] 29 (0, 0)) (zq44) hb); replace HB := Aside0.mk (below_step (zq45) hb); (try clear hb); (try clear hb2); (try clear hk); (try clear hi); (try simp only [errW_none, errW_some]); have hcz34_0 : w33.cell? ⟨gb148, 0, none⟩ = some (.string ((rd_T29 l0 a1).f0)) := (blk_cell BK148.out 0).trans rfl; have hcz34_1 : w33.cell? ⟨gb148, 1, none⟩ = some (.string ((rd_T29 l0 a1).f1)) := (blk_cell BK148.out 1).trans rfl; have hcz34_2 : w33.cell? ⟨gb148, 2, none⟩ = some (.int .i64 ((rd_T29 l0 a1).f2)) := (blk_cell BK148.out 2).trans rfl; have hfz34_0 := blk_frozen BK148.out 0; have hfz34_1 := blk_frozen BK148.out 1; have hfz34_2 := blk_frozen BK148.out 2) | (go_at_call 46; (with_reducible refine (plan_power.calls kj3 (wrap64 (8 - (((rd_T29 l0 a1).f1).size : Int))) t151 _ A19.out).mono ?_); rintro e w' ⟨rfl, ⟨nd, rfl⟩⟩; (try first | exact ⟨rfl, _, World.drewN_drewN _ _ _⟩ | exact ⟨rfl, _, Eq.trans (World.drewN_drewN _ _ _) (congrArg (World.drewN _) (Nat.add_assoc _ _ _))⟩); have hcz35_0 : w33.cell? ⟨gb143, 0, none⟩ = some (.int .i64 0) := (blk_cell BK143.out 0).trans rfl; have hcz35_1 : w33.cell? ⟨gb143, 1, none⟩ = some (.int .i64 0) := (blk_cell BK143.out 1).trans rfl; have hfz35_0 := blk_frozen BK143.out 0; have hfz35_1 := blk_frozen BK143.out 1)))
    refine bodyPost_ret (results_ct rfl _ _ gb143 40 #[.int .i64 (wrap64 (t149 * t151)), .int .i64 (wrap64 ((wrap64 (t149 * t151)) + t151))] (0, 0) _ rfl (zq46) Tryz.underlying40 rfl (by kernel_rfl)) rfl ?_
    exact ⟨zq6, zq45⟩
   rw [if_pos c20] at H
   have c20b0 : (a2 == 1) = true := beq_iff_eq.mpr c20
   have c20b1 : (a2 != 1) = false := bne_eq_false_iff_eq.mpr c20
   clear c20
   replace H := Option.bind_eq_some_iff.mp H
   obtain ⟨t152, A210, H⟩ := H
   replace H : ((plan_power.f kj3 t152).bind fun t153 => (some (wrap64 (t149 * t151), wrap64 ((wrap64 (t149 * t151)) + t153), 0))) = some (r1, r2, r3) := H
   have A21 := Aside0.mk A210
   clear A210
   replace H := Option.bind_eq_some_iff.mp H
   obtain ⟨t153, A220, H⟩ := H
   replace H : (some (wrap64 (t149 * t151), wrap64 ((wrap64 (t149 * t151)) + t153), 0)) = some (r1, r2, r3) := H
   have A22 := Aside0.mk A220
   clear A220
   simp only [Option.some.injEq, Prod.mk.injEq] at H
   obtain ⟨rfl, rfl, rfl⟩ := H
   have p147 : 0 ≤ (a1 : Int) := of_decide_eq_true (zq18)
   have q147 : a1 < (l0.length : Int) := of_decide_eq_true (zq18)
   obtain ⟨ad147, e147, hx147_0, hx147_1, hx147_2⟩ := at_T29 HR0.out a1 p147 q147
   cases e147
   replace hx147_0 := (HB.out.cell (World.block_lt_of_cell? w _ hx147_0)).trans hx147_0
   replace hx147_1 := (HB.out.cell (World.block_lt_of_cell? w _ hx147_1)).trans hx147_1
   replace hx147_2 := (HB.out.cell (World.block_lt_of_cell? w _ hx147_2)).trans hx147_2
   replace p147 := eq_true p147
   replace q147 := eq_true q147
   go_wp2_with (first | ((with_reducible refine gate_dst (N := 8) rfl ?_); (try (refine gate_guard (by rfl) ?_; dsimp only)); refine box_event ?hg (N := 8) ?hd (cs := #[.string (⟨#[]⟩ : ByteArray), .string (⟨#[]⟩ : ByteArray), .int .i64 0]) (t := 29) ?hr ?_; (case hd => rfl); (case hg => rfl); (case hr => exact zq3); intro gb148 hg w23 hbox hb; have BK148 := Aside0.mk (hbox); have GW148 := Aside0.mk ((zq40 : w.heap.size ≤ gb148)); have GE148 := Aside0.mk ((zq40 : w.heap.size ≤ gb148)); replace HB := Aside0.mk (below_step (zq39) hb); have NB143_148 := Aside0.mk ((zq41 : gb143 ≠ gb148)); have NB148_143 := Aside0.mk ((zq42 : gb148 ≠ gb143)); replace BK143 := Aside0.mk (blk_below (g := gb143) (o := .cells #[.int .i64 0, .int .i64 0] 40 (0, 0)) (zq38) hb); clear hb hbox hg; have hnb24 := NB148_143.out; have hnc24 := NB143_148.out; have hcz25_0 : w23.cell? ⟨gb148, 0, none⟩ = some (.string (⟨#[]⟩ : ByteArray)) := (blk_cell BK148.out 0).trans rfl; have hcz25_1 : w23.cell? ⟨gb148, 1, none⟩ = some (.string (⟨#[]⟩ : ByteArray)) := (blk_cell BK148.out 1).trans rfl; have hcz25_2 : w23.cell? ⟨gb148, 2, none⟩ = some (.int .i64 0) := (blk_cell BK148.out 2).trans rfl; have hfz25_0 := blk_frozen BK148.out 0; have hfz25_1 := blk_frozen BK148.out 1; have hfz25_2 := blk_frozen BK148.out 2) | (go_at_call 45; (with_reducible refine (strconv_Atoi.calls ((rd_T29 l0 a1).f1) t149 t150 _ A18.out).mono ?_); rintro e w26 ⟨rfl, hb⟩; replace BK143 := Aside0.mk (blk_below (g := gb143) (o := .cells #[.int .i64 0, .int .i64 0] 40 (0, 0)) (zq43) hb); replace BK148 := Aside0.mk (blk_below (g := gb148) (o := .cells #[.string ((rd_T29 l0 a1).f0), .string ((rd_T29 l0 a1).f1), .int .i64 ((rd_T29 l0 a1).f2)] 29 (0, 0)) (zq44) hb); replace HB := Aside0.mk (below_step (zq45) hb); (try clear hb); (try clear hb2); (try clear hk); (try clear hi); (try simp only [errW_none, errW_some]); have hcz27_0 : w26.cell? ⟨gb148, 0, none⟩ = some (.string ((rd_T29 l0 a1).f0)) := (blk_cell BK148.out 0).trans rfl; have hcz27_1 : w26.cell? ⟨gb148, 1, none⟩ = some (.string ((rd_T29 l0 a1).f1)) := (blk_cell BK148.out 1).trans rfl; have hcz27_2 : w26.cell? ⟨gb148, 2, none⟩ = some (.int .i64 ((rd_T29 l0 a1).f2)) := (blk_cell BK148.out 2).trans rfl; have hfz27_0 := blk_frozen BK148.out 0; have hfz27_1 := blk_frozen BK148.out 1; have hfz27_2 := blk_frozen BK148.out 2) | (go_at_call 46; (with_reducible refine (plan_power.calls kj3 (wrap64 (8 - (((rd_T29 l0 a1).f1).size : Int))) t151 _ A19.out).mono ?_); rintro e w' ⟨rfl, ⟨nd, rfl⟩⟩; (try first | exact ⟨rfl, _, World.drewN_drewN _ _ _⟩ | exact ⟨rfl, _, Eq.trans (World.drewN_drewN _ _ _) (congrArg (World.drewN _) (Nat.add_assoc _ _ _))⟩)) | (go_at_call 39; (with_reducible refine (plan_room.calls ((rd_T29 l0 a1).f0) ((rd_T29 l0 a1).f1) ((rd_T29 l0 a1).f2) t152 _ A21.out).mono ?_); rintro e w28 ⟨rfl, hb⟩; replace BK143 := Aside0.mk (blk_below (g := gb143) (o := .cells #[.int .i64 0, .int .i64 0] 40 (0, 0)) (zq38) hb); replace BK148 := Aside0.mk (blk_below (g := gb148) (o := .cells #[.string ((rd_T29 l0 a1).f0), .string ((rd_T29 l0 a1).f1), .int .i64 ((rd_T29 l0 a1).f2)] 29 (0, 0)) (zq47) hb); replace HB := Aside0.mk (below_step (zq45) hb); (try clear hb); (try clear hb2); (try clear hk); (try clear hi); have hcz29_0 : w28.cell? ⟨gb143, 0, none⟩ = some (.int .i64 0) := (blk_cell BK143.out 0).trans rfl; have hcz29_1 : w28.cell? ⟨gb143, 1, none⟩ = some (.int .i64 0) := (blk_cell BK143.out 1).trans rfl; have hfz29_0 := blk_frozen BK143.out 0; have hfz29_1 := blk_frozen BK143.out 1) | (go_at_call 46; (with_reducible refine (plan_power.calls kj3 t152 t153 _ A22.out).mono ?_); rintro e w' ⟨rfl, ⟨nd, rfl⟩⟩; (try first | exact ⟨rfl, _, World.drewN_drewN _ _ _⟩ | exact ⟨rfl, _, Eq.trans (World.drewN_drewN _ _ _) (congrArg (World.drewN _) (Nat.add_assoc _ _ _))⟩)))
   repeat (go_quiet (first | ((with_reducible refine gate_dst (N := 8) rfl ?_); (try (refine gate_guard (by rfl) ?_; dsimp only)); refine box_event ?hg (N := 8) ?hd (cs := #[.string (⟨#[]⟩ : ByteArray), .string (⟨#[]⟩ : ByteArray), .int .i64 0]) (t := 29) ?hr ?_; (case hd => rfl); (case hg => rfl); (case hr => exact zq3); intro gb148 hg w23 hbox hb; have BK148 := Aside0.mk (hbox); have GW148 := Aside0.mk ((zq40 : w.heap.size ≤ gb148)); have GE148 := Aside0.mk ((zq40 : w.heap.size ≤ gb148)); replace HB := Aside0.mk (below_step (zq39) hb); have NB143_148 := Aside0.mk ((zq41 : gb143 ≠ gb148)); have NB148_143 := Aside0.mk ((zq42 : gb148 ≠ gb143)); replace BK143 := Aside0.mk (blk_below (g := gb143) (o := .cells #[.int .i64 0, .int .i64 0] 40 (0, 0)) (zq38) hb); clear hb hbox hg; have hnb24 := NB148_143.out; have hnc24 := NB143_148.out; have hcz25_0 : w23.cell? ⟨gb148, 0, none⟩ = some (.string (⟨#[]⟩ : ByteArray)) := (blk_cell BK148.out 0).trans rfl; have hcz25_1 : w23.cell? ⟨gb148, 1, none⟩ = some (.string (⟨#[]⟩ : ByteArray)) := (blk_cell BK148.out 1).trans rfl; have hcz25_2 : w23.cell? ⟨gb148, 2, none⟩ = some (.int .i64 0) := (blk_cell BK148.out 2).trans rfl; have hfz25_0 := blk_frozen BK148.out 0; have hfz25_1 := blk_frozen BK148.out 1; have hfz25_2 := blk_frozen BK148.out 2) | (go_at_call 45; (with_reducible refine (strconv_Atoi.calls ((rd_T29 l0 a1).f1) t149 t150 _ A18.out).mono ?_); rintro e w26 ⟨rfl, hb⟩; replace BK143 := Aside0.mk (blk_below (g := gb143) (o := .cells #[.int .i64 0, .int .i64 0] 40 (0, 0)) (zq43) hb); replace BK148 := Aside0.mk (blk_below (g := gb148) (o := .cells #[.string ((rd_T29 l0 a1).f0), .string ((rd_T29 l0 a1).f1), .int .i64 ((rd_T29 l0 a1).f2)] 29 (0, 0)) (zq44) hb); replace HB := Aside0.mk (below_step (zq45) hb); (try clear hb); (try clear hb2); (try clear hk); (try clear hi); (try simp only [errW_none, errW_some]); have hcz27_0 : w26.cell? ⟨gb148, 0, none⟩ = some (.string ((rd_T29 l0 a1).f0)) := (blk_cell BK148.out 0).trans rfl; have hcz27_1 : w26.cell? ⟨gb148, 1, none⟩ = some (.string ((rd_T29 l0 a1).f1)) := (blk_cell BK148.out 1).trans rfl; have hcz27_2 : w26.cell? ⟨gb148, 2, none⟩ = some (.int .i64 ((rd_T29 l0 a1).f2)) := (blk_cell BK148.out 2).trans rfl; have hfz27_0 := blk_frozen BK148.out 0; have hfz27_1 := blk_frozen BK148.out 1; have hfz27_2 := blk_frozen BK148.out 2) | (go_at_call 46; (with_reducible refine (plan_power.calls kj3 (wrap64 (8 - (((rd_T29 l0 a1).f1).size : Int))) t151 _ A19.out).mono ?_); rintro e w' ⟨rfl, ⟨nd, rfl⟩⟩; (try first | exact ⟨rfl, _, World.drewN_drewN _ _ _⟩ | exact ⟨rfl, _, Eq.trans (World.drewN_drewN _ _ _) (congrArg (World.drewN _) (Nat.add_assoc _ _ _))⟩)) | (go_at_call 39; (with_reducible refine (plan_room.calls ((rd_T29 l0 a1).f0) ((rd_T29 l0 a1).f1) ((rd_T29 l0 a1).f2) t152 _ A21.out).mono ?_); rintro e w28 ⟨rfl, hb⟩; replace BK143 := Aside0.mk (blk_below (g := gb143) (o := .cells #[.int .i64 0, .int .i64 0] 40 (0, 0)) (zq38) hb); replace BK148 := Aside0.mk (blk_below (g := gb148) (o := .cells #[.string ((rd_T29 l0 a1).f0), .string ((rd_T29 l0 a1).f1), .int .i64 ((rd_T29 l0 a1).f2)] 29 (0, 0)) (zq47) hb); replace HB := Aside0.mk (below_step (zq45) hb); (try clear hb); (try clear hb2); (try clear hk); (try clear hi); have hcz29_0 : w28.cell? ⟨gb143, 0, none⟩ = some (.int .i64 0) := (blk_cell BK143.out 0).trans rfl; have hcz29_1 : w28.cell? ⟨gb143, 1, none⟩ = some (.int .i64 0) := (blk_cell BK143.out 1).trans rfl; have hfz29_0 := blk_frozen BK143.out 0; have hfz29_1 := blk_frozen BK143.out 1) | (go_at_call 46; (with_reducible refine (plan_power.calls kj3 t152 t153 _ A22.out).mono ?_); rintro e w' ⟨rfl, ⟨nd, rfl⟩⟩; (try first | exact ⟨rfl, _, World.drewN_drewN _ _ _⟩ | exact ⟨rfl, _, Eq.trans (World.drewN_drewN _ _ _) (congrArg (World.drewN _) (Nat.add_assoc _ _ _))⟩))); try go_wp2_with (first | ((with_reducible refine gate_dst (N := 8) rfl ?_); (try (refine gate_guard (by rfl) ?_; dsimp only)); refine box_event ?hg (N := 8) ?hd (cs := #[.string (⟨#[]⟩ : ByteArray), .string (⟨#[]⟩ : ByteArray), .int .i64 0]) (t := 29) ?hr ?_; (case hd => rfl); (case hg => rfl); (case hr => exact zq3); intro gb148 hg w23 hbox hb; have BK148 := Aside0.mk (hbox); have GW148 := Aside0.mk ((zq40 : w.heap.size ≤ gb148)); have GE148 := Aside0.mk ((zq40 : w.heap.size ≤ gb148)); replace HB := Aside0.mk (below_step (zq39) hb); have NB143_148 := Aside0.mk ((zq41 : gb143 ≠ gb148)); have NB148_143 := Aside0.mk ((zq42 : gb148 ≠ gb143)); replace BK143 := Aside0.mk (blk_below (g := gb143) (o := .cells #[.int .i64 0, .int .i64 0] 40 (0, 0)) (zq38) hb); clear hb hbox hg; have hnb24 := NB148_143.out; have hnc24 := NB143_148.out; have hcz25_0 : w23.cell? ⟨gb148, 0, none⟩ = some (.string (⟨#[]⟩ : ByteArray)) := (blk_cell BK148.out 0).trans rfl; have hcz25_1 : w23.cell? ⟨gb148, 1, none⟩ = some (.string (⟨#[]⟩ : ByteArray)) := (blk_cell BK148.out 1).trans rfl; have hcz25_2 : w23.cell? ⟨gb148, 2, none⟩ = some (.int .i64 0) := (blk_cell BK148.out 2).trans rfl; have hfz25_0 := blk_frozen BK148.out 0; have hfz25_1 := blk_frozen BK148.out 1; have hfz25_2 := blk_frozen BK148.out 2) | (go_at_call 45; (with_reducible refine (strconv_Atoi.calls ((rd_T29 l0 a1).f1) t149 t150 _ A18.out).mono ?_); rintro e w26 ⟨rfl, hb⟩; replace BK143 := Aside0.mk (blk_below (g := gb143) (o := .cells #[.int .i64 0, .int .i64 0] 40 (0, 0)) (zq43) hb); replace BK148 := Aside0.mk (blk_below (g := gb148) (o := .cells #[.string ((rd_T29 l0 a1).f0), .string ((rd_T29 l0 a1).f1), .int .i64 ((rd_T29 l0 a1).f2)] 29 (0, 0)) (zq44) hb); replace HB := Aside0.mk (below_step (zq45) hb); (try clear hb); (try clear hb2); (try clear hk); (try clear hi); (try simp only [errW_none, errW_some]); have hcz27_0 : w26.cell? ⟨gb148, 0, none⟩ = some (.string ((rd_T29 l0 a1).f0)) := (blk_cell BK148.out 0).trans rfl; have hcz27_1 : w26.cell? ⟨gb148, 1, none⟩ = some (.string ((rd_T29 l0 a1).f1)) := (blk_cell BK148.out 1).trans rfl; have hcz27_2 : w26.cell? ⟨gb148, 2, none⟩ = some (.int .i64 ((rd_T29 l0 a1).f2)) := (blk_cell BK148.out 2).trans rfl; have hfz27_0 := blk_frozen BK148.out 0; have hfz27_1 := blk_frozen BK148.out 1; have hfz27_2 := blk_frozen BK148.out 2) | (go_at_call 46; (with_reducible refine (plan_power.calls kj3 (wrap64 (8 - (((rd_T29 l0 a1).f1).size : Int))) t151 _ A19.out).mono ?_); rintro e w' ⟨rfl, ⟨nd, rfl⟩⟩; (try first | exact ⟨rfl, _, World.drewN_drewN _ _ _⟩ | exact ⟨rfl, _, Eq.trans (World.drewN_drewN _ _ _) (congrArg (World.drewN _) (Nat.add_assoc _ _ _))⟩)) | (go_at_call 39; (with_reducible refine (plan_room.calls ((rd_T29 l0 a1).f0) ((rd_T29 l0 a1).f1) ((rd_T29 l0 a1).f2) t152 _ A21.out).mono ?_); rintro e w28 ⟨rfl, hb⟩; replace BK143 := Aside0.mk (blk_below (g := gb143) (o := .cells #[.int .i64 0, .int .i64 0] 40 (0, 0)) (zq38) hb); replace BK148 := Aside0.mk (blk_below (g := gb148) (o := .cells #[.string ((rd_T29 l0 a1).f0), .string ((rd_T29 l0 a1).f1), .int .i64 ((rd_T29 l0 a1).f2)] 29 (0, 0)) (zq47) hb); replace HB := Aside0.mk (below_step (zq45) hb); (try clear hb); (try clear hb2); (try clear hk); (try clear hi)) | (go_at_call 46; (with_reducible refine (plan_power.calls kj3 t152 t153 _ A22.out).mono ?_); rintro e w' ⟨rfl, ⟨nd, rfl⟩⟩; (try first | exact ⟨rfl, _, World.drewN_drewN _ _ _⟩ | exact ⟨rfl, _, Eq.trans (World.drewN_drewN _ _ _) (congrArg (World.drewN _) (Nat.add_assoc _ _ _))⟩); have hcz29_0 : w28.cell? ⟨gb143, 0, none⟩ = some (.int .i64 0) := (blk_cell BK143.out 0).trans rfl; have hcz29_1 : w28.cell? ⟨gb143, 1, none⟩ = some (.int .i64 0) := (blk_cell BK143.out 1).trans rfl; have hfz29_0 := blk_frozen BK143.out 0; have hfz29_1 := blk_frozen BK143.out 1)))
   refine bodyPost_ret (results_ct rfl _ _ gb143 40 #[.int .i64 (wrap64 (t149 * t151)), .int .i64 (wrap64 ((wrap64 (t149 * t151)) + t153))] (0, 0) _ rfl (zq46) Tryz.underlying40 rfl (by kernel_rfl)) rfl ?_
   exact ⟨zq6, zq45⟩
end Go.Proofs.YtlmfoblgheepoaaGreatDoor.Pl
end
