/- Pa: part 12 of the proof that the law's row holds: the printed walk of the program's functions, the plain law, the row. -/
import Derived.Test.YtkfejgdeknemaaaGreatDoorQPa10
section
open Go.Proofs.YtkfejgdeknemaaaGreatDoor.Z
namespace Go.Proofs.YtkfejgdeknemaaaGreatDoor.Fw
open Go.RowKit Go.Proofs.YtkfejgdeknemaaaGreatDoorW.PrintWords Go.Proofs.YtkfejgdeknemaaaGreatDoorW.PrintLast Go.Proofs.YtkfejgdeknemaaaGreatDoorW.PrintMore
attribute [local go_sem] max2_int min2_int max_two min_two max_three min_three max_four min_four
set_option linter.unusedVariables false
set_option linter.unusedSimpArgs false
def dialtoneref22_number.f (a0 : Int) : Option (Bool) := if a0 ≥ 0 then (some (decide (a0 ≤ 99999999))) else (some false)
set_option maxHeartbeats 8000000 in
set_option maxRecDepth 100000 in
theorem dialtoneref22_number.calls (a0 : Int) (r : Bool) (w : World) (h : dialtoneref22_number.f a0 = some r) :
 Calls Tryz.prog 67 #[.int .i64 a0] w fun e w' => e = .returned (.bool r) ∧ Drawn0 w w' := by
 have H : (if a0 ≥ 0 then (some (decide (a0 ≤ 99999999))) else (some false)) = some r := h
 clear h
 by_cases c2 : a0 ≥ 0
 ·rw [if_pos c2] at H
  have c2b0 : decide (0 ≤ a0) = true := decide_eq_true c2
  clear c2
  obtain rfl := Option.some.inj H
  go_enter Tryz.func67, Tryz.ntmps67
  go_wp2
  go_ret
  exact ⟨zq2, zq3⟩
 rw [if_neg c2] at H
 have c2b0 : decide (0 ≤ a0) = false := decide_eq_false c2
 clear c2
 obtain rfl := Option.some.inj H
 go_enter Tryz.func67, Tryz.ntmps67
 go_wp2
 go_ret
 exact ⟨zq2, zq3⟩
def dialtoneref22_formed.f (a0_0 : Int) (a0_1 : Int) (a0_2 : Int) (a0_3 : Int) (a0_4 : Int) : Option (Bool) := (dialtoneref22_number.f a0_0).bind fun t347 => (if t347 = true then ((dialtoneref22_number.f a0_2).bind fun t348 => (if t348 = true then (if a0_0 = a0_2 then (some false) else (if a0_1 ≥ 1 then (if a0_1 ≤ 4 then (if a0_3 ≥ 0 then (if a0_3 < a0_4 then (some (decide (a0_4 ≤ 10000001))) else (some false)) else (some false)) else (some false)) else (some false))) else (some false))) else (some false))
set_option maxHeartbeats 8000000 in
set_option maxRecDepth 100000 in
theorem dialtoneref22_formed.calls (a0_0 : Int) (a0_1 : Int) (a0_2 : Int) (a0_3 : Int) (a0_4 : Int) (r : Bool) (w : World) (h : dialtoneref22_formed.f a0_0 a0_1 a0_2 a0_3 a0_4 = some r) :
 Calls Tryz.prog 48 #[.agg #[.int .i64 a0_0, .int .i64 a0_1, .int .i64 a0_2, .int .i64 a0_3, .int .i64 a0_4]] w fun e w' => e = .returned (.bool r) ∧ Below w.heap.size w w' := by
 have hu41 := Tryz.underlying41
 have HB := Aside0.mk (Below.refl w.heap.size w)
 have H : ((dialtoneref22_number.f a0_0).bind fun t347 => (if t347 = true then ((dialtoneref22_number.f a0_2).bind fun t348 => (if t348 = true then (if a0_0 = a0_2 then (some false) else (if a0_1 ≥ 1 then (if a0_1 ≤ 4 then (if a0_3 ≥ 0 then (if a0_3 < a0_4 then (some (decide (a0_4 ≤ 10000001))) else (some false)) else (some false)) else (some false)) else (some false))) else (some false))) else (some false))) = some r := h
 clear h
 replace H := Option.bind_eq_some_iff.mp H
 obtain ⟨t347, A20, H⟩ := H
 try dsimp only at H
 have A2 := Aside0.mk A20
 clear A20
 by_cases c3 : t347 = true
 rotate_left
 ·replace c3 := Bool.eq_false_iff.mpr c3
  subst c3
  rw [if_neg (show ¬ (false = true) by decide)] at H
  obtain rfl := Option.some.inj H
  go_enter Tryz.func48, Tryz.ntmps48
  go_wp2_with (first | ((with_reducible refine gate_dst (N := 1) rfl ?_); refine box_event ?hg (N := 1) ?hd (cs := #[.int .i64 a0_0, .int .i64 a0_1, .int .i64 a0_2, .int .i64 a0_3, .int .i64 a0_4]) (t := 41) ?hr ?_; (case hd => rfl); (case hg => rfl); (case hr => exact zq4); intro gb346 hg w25 hbox hb; have BK346 := Aside0.mk (hbox); have GW346 := Aside0.mk ((zq5 : w.heap.size ≤ gb346)); have GE346 := Aside0.mk ((zq5 : w.heap.size ≤ gb346)); replace HB := Aside0.mk (below_step (zW HB) hb); clear hb hbox hg; have hcz26_0 : w25.cell? ⟨gb346, 0, none⟩ = some (.int .i64 a0_0) := (blk_cell BK346.out 0).trans rfl; have hcz26_1 : w25.cell? ⟨gb346, 1, none⟩ = some (.int .i64 a0_1) := (blk_cell BK346.out 1).trans rfl; have hcz26_2 : w25.cell? ⟨gb346, 2, none⟩ = some (.int .i64 a0_2) := (blk_cell BK346.out 2).trans rfl; have hcz26_3 : w25.cell? ⟨gb346, 3, none⟩ = some (.int .i64 a0_3) := (blk_cell BK346.out 3).trans rfl; have hcz26_4 : w25.cell? ⟨gb346, 4, none⟩ = some (.int .i64 a0_4) := (blk_cell BK346.out 4).trans rfl; have hfz26_0 := blk_frozen BK346.out 0; have hfz26_1 := blk_frozen BK346.out 1; have hfz26_2 := blk_frozen BK346.out 2; have hfz26_3 := blk_frozen BK346.out 3; have hfz26_4 := blk_frozen BK346.out 4) | ((with_reducible refine gate_callee (f := 67) rfl ?_); refine goesL_ (some 5) rfl rfl Tryz.func67 (by kernel_rfl) rfl #[.int .i64 a0_0] rfl zG ?_; (with_reducible refine (dialtoneref22_number.calls a0_0 false _ A2.out).mono ?_); rintro e w' ⟨rfl, ⟨nd, rfl⟩⟩; refine ⟨_, rfl, ?_⟩))
  go_ret
  exact ⟨zq6, zq83⟩
 subst c3
 rw [if_pos rfl] at H
 replace H := Option.bind_eq_some_iff.mp H
 obtain ⟨t348, A40, H⟩ := H
 try dsimp only at H
 have A4 := Aside0.mk A40
 clear A40
 by_cases c5 : t348 = true
 rotate_left
 ·replace c5 := Bool.eq_false_iff.mpr c5
  subst c5
  rw [if_neg (show ¬ (false = true) by decide)] at H
  obtain rfl := Option.some.inj H
  go_enter Tryz.func48, Tryz.ntmps48
  go_wp2_with (first | ((with_reducible refine gate_dst (N := 1) rfl ?_); refine box_event ?hg (N := 1) ?hd (cs := #[.int .i64 a0_0, .int .i64 a0_1, .int .i64 a0_2, .int .i64 a0_3, .int .i64 a0_4]) (t := 41) ?hr ?_; (case hd => rfl); (case hg => rfl); (case hr => exact zq4); intro gb346 hg w23 hbox hb; have BK346 := Aside0.mk (hbox); have GW346 := Aside0.mk ((zq5 : w.heap.size ≤ gb346)); have GE346 := Aside0.mk ((zq5 : w.heap.size ≤ gb346)); replace HB := Aside0.mk (below_step (zW HB) hb); clear hb hbox hg; have hcz24_0 : w23.cell? ⟨gb346, 0, none⟩ = some (.int .i64 a0_0) := (blk_cell BK346.out 0).trans rfl; have hcz24_1 : w23.cell? ⟨gb346, 1, none⟩ = some (.int .i64 a0_1) := (blk_cell BK346.out 1).trans rfl; have hcz24_2 : w23.cell? ⟨gb346, 2, none⟩ = some (.int .i64 a0_2) := (blk_cell BK346.out 2).trans rfl; have hcz24_3 : w23.cell? ⟨gb346, 3, none⟩ = some (.int .i64 a0_3) := (blk_cell BK346.out 3).trans rfl; have hcz24_4 : w23.cell? ⟨gb346, 4, none⟩ = some (.int .i64 a0_4) := (blk_cell BK346.out 4).trans rfl; have hfz24_0 := blk_frozen BK346.out 0; have hfz24_1 := blk_frozen BK346.out 1; have hfz24_2 := blk_frozen BK346.out 2; have hfz24_3 := blk_frozen BK346.out 3; have hfz24_4 := blk_frozen BK346.out 4) | ((with_reducible refine gate_callee (f := 67) rfl ?_); refine goesL_ (some 5) rfl rfl Tryz.func67 (by kernel_rfl) rfl #[.int .i64 a0_0] rfl zG ?_; (with_reducible refine (dialtoneref22_number.calls a0_0 true _ A2.out).mono ?_); rintro e w' ⟨rfl, ⟨nd, rfl⟩⟩; refine ⟨_, rfl, ?_⟩) | (go_at_call 67; (with_reducible refine (dialtoneref22_number.calls a0_2 false _ A4.out).mono ?_); rintro e w' ⟨rfl, ⟨nd, rfl⟩⟩))
  go_ret
  exact ⟨zq6, zq83⟩
 subst c5
 rw [if_pos rfl] at H
 by_cases c6 : a0_0 = a0_2
 ·rw [if_pos c6] at H
  have c6b0 : (a0_0 == a0_2) = true := beq_iff_eq.mpr c6
  have c6b1 : (a0_0 != a0_2) = false := bne_eq_false_iff_eq.mpr c6
  clear c6
  obtain rfl := Option.some.inj H
  go_enter Tryz.func48, Tryz.ntmps48
  go_wp2_with (first | ((with_reducible refine gate_dst (N := 1) rfl ?_); refine box_event ?hg (N := 1) ?hd (cs := #[.int .i64 a0_0, .int .i64 a0_1, .int .i64 a0_2, .int .i64 a0_3, .int .i64 a0_4]) (t := 41) ?hr ?_; (case hd => rfl); (case hg => rfl); (case hr => exact zq4); intro gb346 hg w7 hbox hb; have BK346 := Aside0.mk (hbox); have GW346 := Aside0.mk ((zq5 : w.heap.size ≤ gb346)); have GE346 := Aside0.mk ((zq5 : w.heap.size ≤ gb346)); replace HB := Aside0.mk (below_step (zW HB) hb); clear hb hbox hg; have hcz8_0 : w7.cell? ⟨gb346, 0, none⟩ = some (.int .i64 a0_0) := (blk_cell BK346.out 0).trans rfl; have hcz8_1 : w7.cell? ⟨gb346, 1, none⟩ = some (.int .i64 a0_1) := (blk_cell BK346.out 1).trans rfl; have hcz8_2 : w7.cell? ⟨gb346, 2, none⟩ = some (.int .i64 a0_2) := (blk_cell BK346.out 2).trans rfl; have hcz8_3 : w7.cell? ⟨gb346, 3, none⟩ = some (.int .i64 a0_3) := (blk_cell BK346.out 3).trans rfl; have hcz8_4 : w7.cell? ⟨gb346, 4, none⟩ = some (.int .i64 a0_4) := (blk_cell BK346.out 4).trans rfl; have hfz8_0 := blk_frozen BK346.out 0; have hfz8_1 := blk_frozen BK346.out 1; have hfz8_2 := blk_frozen BK346.out 2; have hfz8_3 := blk_frozen BK346.out 3; have hfz8_4 := blk_frozen BK346.out 4) | ((with_reducible refine gate_callee (f := 67) rfl ?_); refine goesL_ (some 5) rfl rfl Tryz.func67 (by kernel_rfl) rfl #[.int .i64 a0_0] rfl zG ?_; (with_reducible refine (dialtoneref22_number.calls a0_0 true _ A2.out).mono ?_); rintro e w' ⟨rfl, ⟨nd, rfl⟩⟩; refine ⟨_, rfl, ?_⟩) | (go_at_call 67; (with_reducible refine (dialtoneref22_number.calls a0_2 true _ A4.out).mono ?_); rintro e w' ⟨rfl, ⟨nd, rfl⟩⟩))
  go_ret
  exact ⟨zq6, zq83⟩
 rw [if_neg c6] at H
 have c6b0 : (a0_0 == a0_2) = false := beq_eq_false_iff_ne.mpr c6
 have c6b1 : (a0_0 != a0_2) = true := bne_iff_ne.mpr c6
 by_cases c9 : a0_1 ≥ 1
 rotate_left
 ·rw [if_neg c9] at H
  have c9b0 : decide (1 ≤ a0_1) = false := decide_eq_false c9
  clear c9
  obtain rfl := Option.some.inj H
  go_enter Tryz.func48, Tryz.ntmps48
  go_wp2_with (first | ((with_reducible refine gate_dst (N := 1) rfl ?_); refine box_event ?hg (N := 1) ?hd (cs := #[.int .i64 a0_0, .int .i64 a0_1, .int .i64 a0_2, .int .i64 a0_3, .int .i64 a0_4]) (t := 41) ?hr ?_; (case hd => rfl); (case hg => rfl); (case hr => exact zq4); intro gb346 hg w21 hbox hb; have BK346 := Aside0.mk (hbox); have GW346 := Aside0.mk ((zq5 : w.heap.size ≤ gb346)); have GE346 := Aside0.mk ((zq5 : w.heap.size ≤ gb346)); replace HB := Aside0.mk (below_step (zW HB) hb); clear hb hbox hg; have hcz22_0 : w21.cell? ⟨gb346, 0, none⟩ = some (.int .i64 a0_0) := (blk_cell BK346.out 0).trans rfl; have hcz22_1 : w21.cell? ⟨gb346, 1, none⟩ = some (.int .i64 a0_1) := (blk_cell BK346.out 1).trans rfl; have hcz22_2 : w21.cell? ⟨gb346, 2, none⟩ = some (.int .i64 a0_2) := (blk_cell BK346.out 2).trans rfl; have hcz22_3 : w21.cell? ⟨gb346, 3, none⟩ = some (.int .i64 a0_3) := (blk_cell BK346.out 3).trans rfl; have hcz22_4 : w21.cell? ⟨gb346, 4, none⟩ = some (.int .i64 a0_4) := (blk_cell BK346.out 4).trans rfl; have hfz22_0 := blk_frozen BK346.out 0; have hfz22_1 := blk_frozen BK346.out 1; have hfz22_2 := blk_frozen BK346.out 2; have hfz22_3 := blk_frozen BK346.out 3; have hfz22_4 := blk_frozen BK346.out 4) | ((with_reducible refine gate_callee (f := 67) rfl ?_); refine goesL_ (some 5) rfl rfl Tryz.func67 (by kernel_rfl) rfl #[.int .i64 a0_0] rfl zG ?_; (with_reducible refine (dialtoneref22_number.calls a0_0 true _ A2.out).mono ?_); rintro e w' ⟨rfl, ⟨nd, rfl⟩⟩; refine ⟨_, rfl, ?_⟩) | (go_at_call 67; (with_reducible refine (dialtoneref22_number.calls a0_2 true _ A4.out).mono ?_); rintro e w' ⟨rfl, ⟨nd, rfl⟩⟩))
  go_ret
  exact ⟨zq6, zq83⟩
 rw [if_pos c9] at H
 have c9b0 : decide (1 ≤ a0_1) = true := decide_eq_true c9
 clear c9
 by_cases c10 : a0_1 ≤ 4
 rotate_left
 ·rw [if_neg c10] at H
  have c10b0 : decide (a0_1 ≤ 4) = false := decide_eq_false c10
  clear c10
  obtain rfl := Option.some.inj H
  go_enter Tryz.func48, Tryz.ntmps48
  go_wp2_with (first | ((with_reducible refine gate_dst (N := 1) rfl ?_); refine box_event ?hg (N := 1) ?hd (cs := #[.int .i64 a0_0, .int .i64 a0_1, .int .i64 a0_2, .int .i64 a0_3, .int .i64 a0_4]) (t := 41) ?hr ?_; (case hd => rfl); (case hg => rfl); (case hr => exact zq4); intro gb346 hg w19 hbox hb; have BK346 := Aside0.mk (hbox); have GW346 := Aside0.mk ((zq5 : w.heap.size ≤ gb346)); have GE346 := Aside0.mk ((zq5 : w.heap.size ≤ gb346)); replace HB := Aside0.mk (below_step (zW HB) hb); clear hb hbox hg; have hcz20_0 : w19.cell? ⟨gb346, 0, none⟩ = some (.int .i64 a0_0) := (blk_cell BK346.out 0).trans rfl; have hcz20_1 : w19.cell? ⟨gb346, 1, none⟩ = some (.int .i64 a0_1) := (blk_cell BK346.out 1).trans rfl; have hcz20_2 : w19.cell? ⟨gb346, 2, none⟩ = some (.int .i64 a0_2) := (blk_cell BK346.out 2).trans rfl; have hcz20_3 : w19.cell? ⟨gb346, 3, none⟩ = some (.int .i64 a0_3) := (blk_cell BK346.out 3).trans rfl; have hcz20_4 : w19.cell? ⟨gb346, 4, none⟩ = some (.int .i64 a0_4) := (blk_cell BK346.out 4).trans rfl; have hfz20_0 := blk_frozen BK346.out 0; have hfz20_1 := blk_frozen BK346.out 1; have hfz20_2 := blk_frozen BK346.out 2; have hfz20_3 := blk_frozen BK346.out 3; have hfz20_4 := blk_frozen BK346.out 4) | ((with_reducible refine gate_callee (f := 67) rfl ?_); refine goesL_ (some 5) rfl rfl Tryz.func67 (by kernel_rfl) rfl #[.int .i64 a0_0] rfl zG ?_; (with_reducible refine (dialtoneref22_number.calls a0_0 true _ A2.out).mono ?_); rintro e w' ⟨rfl, ⟨nd, rfl⟩⟩; refine ⟨_, rfl, ?_⟩) | (go_at_call 67; (with_reducible refine (dialtoneref22_number.calls a0_2 true _ A4.out).mono ?_); rintro e w' ⟨rfl, ⟨nd, rfl⟩⟩))
  go_ret
  exact ⟨zq6, zq83⟩
 rw [if_pos c10] at H
 have c10b0 : decide (a0_1 ≤ 4) = true := decide_eq_true c10
 clear c10
 by_cases c11 : a0_3 ≥ 0
 rotate_left
 ·rw [if_neg c11] at H
  have c11b0 : decide (0 ≤ a0_3) = false := decide_eq_false c11
  clear c11
  obtain rfl := Option.some.inj H
  go_enter Tryz.func48, Tryz.ntmps48
  go_wp2_with (first | ((with_reducible refine gate_dst (N := 1) rfl ?_); refine box_event ?hg (N := 1) ?hd (cs := #[.int .i64 a0_0, .int .i64 a0_1, .int .i64 a0_2, .int .i64 a0_3, .int .i64 a0_4]) (t := 41) ?hr ?_; (case hd => rfl); (case hg => rfl); (case hr => exact zq4); intro gb346 hg w17 hbox hb; have BK346 := Aside0.mk (hbox); have GW346 := Aside0.mk ((zq5 : w.heap.size ≤ gb346)); have GE346 := Aside0.mk ((zq5 : w.heap.size ≤ gb346)); replace HB := Aside0.mk (below_step (zW HB) hb); clear hb hbox hg; have hcz18_0 : w17.cell? ⟨gb346, 0, none⟩ = some (.int .i64 a0_0) := (blk_cell BK346.out 0).trans rfl; have hcz18_1 : w17.cell? ⟨gb346, 1, none⟩ = some (.int .i64 a0_1) := (blk_cell BK346.out 1).trans rfl; have hcz18_2 : w17.cell? ⟨gb346, 2, none⟩ = some (.int .i64 a0_2) := (blk_cell BK346.out 2).trans rfl; have hcz18_3 : w17.cell? ⟨gb346, 3, none⟩ = some (.int .i64 a0_3) := (blk_cell BK346.out 3).trans rfl; have hcz18_4 : w17.cell? ⟨gb346, 4, none⟩ = some (.int .i64 a0_4) := (blk_cell BK346.out 4).trans rfl; have hfz18_0 := blk_frozen BK346.out 0; have hfz18_1 := blk_frozen BK346.out 1; have hfz18_2 := blk_frozen BK346.out 2; have hfz18_3 := blk_frozen BK346.out 3; have hfz18_4 := blk_frozen BK346.out 4) | ((with_reducible refine gate_callee (f := 67) rfl ?_); refine goesL_ (some 5) rfl rfl Tryz.func67 (by kernel_rfl) rfl #[.int .i64 a0_0] rfl zG ?_; (with_reducible refine (dialtoneref22_number.calls a0_0 true _ A2.out).mono ?_); rintro e w' ⟨rfl, ⟨nd, rfl⟩⟩; refine ⟨_, rfl, ?_⟩) | (go_at_call 67; (with_reducible refine (dialtoneref22_number.calls a0_2 true _ A4.out).mono ?_); rintro e w' ⟨rfl, ⟨nd, rfl⟩⟩))
  go_ret
  exact ⟨zq6, zq83⟩
 rw [if_pos c11] at H
 have c11b0 : decide (0 ≤ a0_3) = true := decide_eq_true c11
 clear c11
 by_cases c12 : a0_3 < a0_4
 ·rw [if_pos c12] at H
  have c12b0 : decide (a0_3 < a0_4) = true := decide_eq_true c12
  clear c12
  obtain rfl := Option.some.inj H
  go_enter Tryz.func48, Tryz.ntmps48
  go_wp2_with (first | ((with_reducible refine gate_dst (N := 1) rfl ?_); refine box_event ?hg (N := 1) ?hd (cs := #[.int .i64 a0_0, .int .i64 a0_1, .int .i64 a0_2, .int .i64 a0_3, .int .i64 a0_4]) (t := 41) ?hr ?_; (case hd => rfl); (case hg => rfl); (case hr => exact zq4); intro gb346 hg w13 hbox hb; have BK346 := Aside0.mk (hbox); have GW346 := Aside0.mk ((zq5 : w.heap.size ≤ gb346)); have GE346 := Aside0.mk ((zq5 : w.heap.size ≤ gb346)); replace HB := Aside0.mk (below_step (zW HB) hb); clear hb hbox hg; have hcz14_0 : w13.cell? ⟨gb346, 0, none⟩ = some (.int .i64 a0_0) := (blk_cell BK346.out 0).trans rfl; have hcz14_1 : w13.cell? ⟨gb346, 1, none⟩ = some (.int .i64 a0_1) := (blk_cell BK346.out 1).trans rfl; have hcz14_2 : w13.cell? ⟨gb346, 2, none⟩ = some (.int .i64 a0_2) := (blk_cell BK346.out 2).trans rfl; have hcz14_3 : w13.cell? ⟨gb346, 3, none⟩ = some (.int .i64 a0_3) := (blk_cell BK346.out 3).trans rfl; have hcz14_4 : w13.cell? ⟨gb346, 4, none⟩ = some (.int .i64 a0_4) := (blk_cell BK346.out 4).trans rfl; have hfz14_0 := blk_frozen BK346.out 0; have hfz14_1 := blk_frozen BK346.out 1; have hfz14_2 := blk_frozen BK346.out 2; have hfz14_3 := blk_frozen BK346.out 3; have hfz14_4 := blk_frozen BK346.out 4) | ((with_reducible refine gate_callee (f := 67) rfl ?_); refine goesL_ (some 5) rfl rfl Tryz.func67 (by kernel_rfl) rfl #[.int .i64 a0_0] rfl zG ?_; (with_reducible refine (dialtoneref22_number.calls a0_0 true _ A2.out).mono ?_); rintro e w' ⟨rfl, ⟨nd, rfl⟩⟩; refine ⟨_, rfl, ?_⟩) | (go_at_call 67; (with_reducible refine (dialtoneref22_number.calls a0_2 true _ A4.out).mono ?_); rintro e w' ⟨rfl, ⟨nd, rfl⟩⟩))
  go_ret
  exact ⟨zq6, zq83⟩
 rw [if_neg c12] at H
 have c12b0 : decide (a0_3 < a0_4) = false := decide_eq_false c12
 clear c12
 obtain rfl := Option.some.inj H
 go_enter Tryz.func48, Tryz.ntmps48
 go_wp2_with (first | ((with_reducible refine gate_dst (N := 1) rfl ?_); refine box_event ?hg (N := 1) ?hd (cs := #[.int .i64 a0_0, .int .i64 a0_1, .int .i64 a0_2, .int .i64 a0_3, .int .i64 a0_4]) (t := 41) ?hr ?_; (case hd => rfl); (case hg => rfl); (case hr => exact zq4); intro gb346 hg w15 hbox hb; have BK346 := Aside0.mk (hbox); have GW346 := Aside0.mk ((zq5 : w.heap.size ≤ gb346)); have GE346 := Aside0.mk ((zq5 : w.heap.size ≤ gb346)); replace HB := Aside0.mk (below_step (zW HB) hb); clear hb hbox hg; have hcz16_0 : w15.cell? ⟨gb346, 0, none⟩ = some (.int .i64 a0_0) := (blk_cell BK346.out 0).trans rfl; have hcz16_1 : w15.cell? ⟨gb346, 1, none⟩ = some (.int .i64 a0_1) := (blk_cell BK346.out 1).trans rfl; have hcz16_2 : w15.cell? ⟨gb346, 2, none⟩ = some (.int .i64 a0_2) := (blk_cell BK346.out 2).trans rfl; have hcz16_3 : w15.cell? ⟨gb346, 3, none⟩ = some (.int .i64 a0_3) := (blk_cell BK346.out 3).trans rfl; have hcz16_4 : w15.cell? ⟨gb346, 4, none⟩ = some (.int .i64 a0_4) := (blk_cell BK346.out 4).trans rfl; have hfz16_0 := blk_frozen BK346.out 0; have hfz16_1 := blk_frozen BK346.out 1; have hfz16_2 := blk_frozen BK346.out 2; have hfz16_3 := blk_frozen BK346.out 3; have hfz16_4 := blk_frozen BK346.out 4) | ((with_reducible refine gate_callee (f := 67) rfl ?_); refine goesL_ (some 5) rfl rfl Tryz.func67 (by kernel_rfl) rfl #[.int .i64 a0_0] rfl zG ?_; (with_reducible refine (dialtoneref22_number.calls a0_0 true _ A2.out).mono ?_); rintro e w' ⟨rfl, ⟨nd, rfl⟩⟩; refine ⟨_, rfl, ?_⟩) | (go_at_call 67; (with_reducible refine (dialtoneref22_number.calls a0_2 true _ A4.out).mono ?_); rintro e w' ⟨rfl, ⟨nd, rfl⟩⟩))
 go_ret
 exact ⟨zq6, zq83⟩
mutual
def dialtoneref22_Settings.l0 : Nat → List (S41) → Int → Option (Bool)
 | 0, _, _ => none
 | k + 1, x0, x3 => if x3 < (x0.length : Int) then (if 0 ≤ x3 then ((dialtoneref22_formed.f ((rd_T41 x0 x3).f0) ((rd_T41 x0 x3).f1) ((rd_T41 x0 x3).f2) ((rd_T41 x0 x3).f3.f0) ((rd_T41 x0 x3).f3.f1)).bind fun t350 => (if t350 = true then (dialtoneref22_Settings.l1 k x0 x3 0) else (some false))) else (none)) else (some true)
def dialtoneref22_Settings.l1 : Nat → List (S41) → Int → Int → Option (Bool)
 | 0, _, _, _ => none
 | k + 1, x0, x3, x4 => if x4 < x3 then (if 0 ≤ x3 then (if x3 < (x0.length : Int) then (if 0 ≤ x4 then (if x4 < (x0.length : Int) then (if ((rd_T41 x0 x3).f0) = ((rd_T41 x0 x4).f0) then (if ((rd_T41 x0 x3).f1) = ((rd_T41 x0 x4).f1) then (if (mx ((rd_T41 x0 x3).f3.f0) ((rd_T41 x0 x4).f3.f0)) < (mn ((rd_T41 x0 x3).f3.f1) ((rd_T41 x0 x4).f3.f1)) then (some false) else (dialtoneref22_Settings.l1 k x0 x3 (wrap64 (x4 + 1)))) else (dialtoneref22_Settings.l1 k x0 x3 (wrap64 (x4 + 1)))) else (dialtoneref22_Settings.l1 k x0 x3 (wrap64 (x4 + 1)))) else (none)) else (none)) else (none)) else (none)) else (dialtoneref22_Settings.l0 k x0 (wrap64 (x3 + 1)))
end
def dialtoneref22_Settings.f (k : Nat) (l0 : List (S41)) : Option (Bool) := if (l0.length : Int) > 40 then (some false) else (dialtoneref22_Settings.l0 k l0 0)
theorem dialtoneref22_Settings.mono_l : ∀ k, (∀ y0 y1, LeO (dialtoneref22_Settings.l0 k y0 y1) (dialtoneref22_Settings.l0 (k + 1) y0 y1)) ∧ (∀ y0 y1 y2, LeO (dialtoneref22_Settings.l1 k y0 y1 y2) (dialtoneref22_Settings.l1 (k + 1) y0 y1 y2))
 | 0 => ⟨fun _ _ r h => by simp [dialtoneref22_Settings.l0] at h, fun _ _ _ r h => by simp [dialtoneref22_Settings.l1] at h⟩
 | k + 1 => by
  obtain ⟨ih0, ih1⟩ := dialtoneref22_Settings.mono_l k
  refine ⟨?_, ?_⟩
  ·intro y0 y1
   unfold dialtoneref22_Settings.l0
   repeat' first
   | (with_reducible exact ih0 _ _)
   | (with_reducible exact ih1 _ _ _)
   | (with_reducible exact LeO.refl _)
   | (with_reducible exact LeO.none _)
   | (with_reducible refine LeO.ite ?_ ?_)
   | (with_reducible refine LeO.bind ?_ (fun _ => ?_))
   | exact ih0 _ _
   | exact ih1 _ _ _
   | exact LeO.none _
   | refine LeO.ite ?_ ?_
   | refine LeO.bind ?_ (fun _ => ?_)
  ·intro y0 y1 y2
   unfold dialtoneref22_Settings.l1
   repeat' first
   | (with_reducible exact ih0 _ _)
   | (with_reducible exact ih1 _ _ _)
   | (with_reducible exact LeO.refl _)
   | (with_reducible exact LeO.none _)
   | (with_reducible refine LeO.ite ?_ ?_)
   | (with_reducible refine LeO.bind ?_ (fun _ => ?_))
   | exact ih0 _ _
   | exact ih1 _ _ _
   | exact LeO.none _
   | refine LeO.ite ?_ ?_
   | refine LeO.bind ?_ (fun _ => ?_)
theorem dialtoneref22_Settings.mono : ∀ a0 k, LeO (dialtoneref22_Settings.f k a0) (dialtoneref22_Settings.f (k + 1) a0) := by
 intro a0 k
 obtain ⟨ih0, ih1⟩ := dialtoneref22_Settings.mono_l k
 unfold dialtoneref22_Settings.f
 repeat' first
  | (with_reducible exact ih0 _ _)
  | (with_reducible exact ih1 _ _ _)
  | (with_reducible exact LeO.refl _)
  | (with_reducible exact LeO.none _)
  | (with_reducible refine LeO.ite ?_ ?_)
  | (with_reducible refine LeO.bind ?_ (fun _ => ?_))
  | exact ih0 _ _
  | exact ih1 _ _ _
  | exact LeO.none _
  | refine LeO.ite ?_ ?_
  | refine LeO.bind ?_ (fun _ => ?_)
set_option maxHeartbeats 8000000 in
set_option maxRecDepth 100000 in
theorem dialtoneref22_Settings.calls (k : Nat) (A0 : Option Addr) (c0 : Nat) (l0 : List (S41)) (r : Bool) (w : World) (hr0 : Kd.C k41 w A0 l0.length l0) (hc0 : l0.length ≤ c0) (h : dialtoneref22_Settings.f k l0 = some r) :
 Calls Tryz.prog 27 #[.slice A0 l0.length c0] w fun e w' => e = .returned (.bool r) ∧ Below w.heap.size w w' := by
 have hu41 := Tryz.underlying41
 have HR0 := Aside0.mk hr0
 have HC0 := Aside0.mk hc0
 clear hr0 hc0
 have HB := Aside0.mk (Below.refl w.heap.size w)
 have H : (if (l0.length : Int) > 40 then (some false) else (dialtoneref22_Settings.l0 k l0 0)) = some r := h
 clear h
 by_cases c2 : (l0.length : Int) > 40
 ·rw [if_pos c2] at H
  have c2b0 : decide (40 < (l0.length : Int)) = true := decide_eq_true c2
  have c2b1 : decide (40 < l0.length) = true := decide_eq_true (by omega)
  clear c2
  obtain rfl := Option.some.inj H
  go_enter Tryz.func27, Tryz.ntmps27
  go_wp2
  repeat (go_quiet (fail); try go_wp2)
  go_ret
  exact ⟨zq6, zq18⟩
 rw [if_neg c2] at H
 have c2b0 : decide (40 < (l0.length : Int)) = false := decide_eq_false c2
 have c2b1 : decide (40 < l0.length) = false := decide_eq_false (by omega)
 clear c2
 have H' := Aside0.mk H
 clear H
 go_enter Tryz.func27, Tryz.ntmps27
 go_wp2
 repeat (go_quiet (fail); try go_wp2)
 go_loopg [3] k (fun kq v3 w' => ∃ (x3_1 : Int), v3 = .int .i64 x3_1 ∧ Aside0 (dialtoneref22_Settings.l0 kq l0 x3_1 = some r) ∧ Aside0 (kq ≤ k) ∧ Aside0 (Below w.heap.size w w'))
 case atStart => exact ⟨(0), (zq2), H', ⟨Nat.le_refl _⟩, ⟨zq18⟩⟩
 case round =>
  clear H'
  try clear c2
  try clear c2b0
  try clear c2b1
  try clear p2
  obtain ⟨x3_1, rfl, HA, HK1, HB⟩ := hrel
  cases gk with
  | zero => exact absurd HA.out (by simp [dialtoneref22_Settings.l0])
  | succ k1 =>
   have H := HA.out
   clear HA
   simp only [dialtoneref22_Settings.l0] at H
   by_cases c3 : x3_1 < (l0.length : Int)
   rotate_left
   ·rw [if_neg c3] at H
    have c3b0 : decide (x3_1 < (l0.length : Int)) = false := decide_eq_false c3
    clear c3
    obtain rfl := Option.some.inj H
    go_wp2
    repeat (go_quiet (fail); try go_wp2)
    go_ret
    exact ⟨zq6, zq18⟩
   rw [if_pos c3] at H
   have c3b0 : decide (x3_1 < (l0.length : Int)) = true := decide_eq_true c3
   clear c3
   by_cases c4 : 0 ≤ x3_1
   rotate_left
   ·rw [if_neg c4] at H
    exact absurd H (by simp)
   rw [if_pos c4] at H
   have c4b0 : decide (0 ≤ x3_1) = true := decide_eq_true c4
   clear c4
   replace H := Option.bind_eq_some_iff.mp H
   obtain ⟨t350, A50, H⟩ := H
   try dsimp only at H
   have A5 := Aside0.mk A50
   clear A50
   by_cases c6 : t350 = true
   rotate_left
   ·replace c6 := Bool.eq_false_iff.mpr c6
    subst c6
    rw [if_neg (show ¬ (false = true) by decide)] at H
    obtain rfl := Option.some.inj H
    have p349 : 0 ≤ (x3_1 : Int) := of_decide_eq_true (zq9)
    have q349 : x3_1 < (l0.length : Int) := of_decide_eq_true (zq9)
    obtain ⟨ad349, e349, hx349_0, hx349_1, hx349_2, hx349_3, hx349_4⟩ := at_T41 HR0.out x3_1 p349 q349
    cases e349
    replace hx349_0 := (HB.out.cell (World.block_lt_of_cell? w _ hx349_0)).trans hx349_0
    replace hx349_1 := (HB.out.cell (World.block_lt_of_cell? w _ hx349_1)).trans hx349_1
    replace hx349_2 := (HB.out.cell (World.block_lt_of_cell? w _ hx349_2)).trans hx349_2
    replace hx349_3 := (HB.out.cell (World.block_lt_of_cell? w _ hx349_3)).trans hx349_3
    replace hx349_4 := (HB.out.cell (World.block_lt_of_cell? w _ hx349_4)).trans hx349_4
    replace p349 := eq_true p349
    replace q349 := eq_true q349
    go_wp2_with (first | (go_at_call 48; (with_reducible refine (dialtoneref22_formed.calls ((rd_T41 l0 x3_1).f0) ((rd_T41 l0 x3_1).f1) ((rd_T41 l0 x3_1).f2) ((rd_T41 l0 x3_1).f3.f0) ((rd_T41 l0 x3_1).f3.f1) false _ A5.out).mono ?_); rintro e w18 ⟨rfl, hb⟩; replace HB := Aside0.mk (below_step (zW HB) hb); (try clear hb); (try clear hb2); (try clear hk); (try clear hi)))
    repeat (go_quiet (first | (go_at_call 48; (with_reducible refine (dialtoneref22_formed.calls ((rd_T41 l0 x3_1).f0) ((rd_T41 l0 x3_1).f1) ((rd_T41 l0 x3_1).f2) ((rd_T41 l0 x3_1).f3.f0) ((rd_T41 l0 x3_1).f3.f1) false _ A5.out).mono ?_); rintro e w18 ⟨rfl, hb⟩; replace HB := Aside0.mk (below_step (zW HB) hb); (try clear hb); (try clear hb2); (try clear hk); (try clear hi))); try go_wp2_with (first | (go_at_call 48; (with_reducible refine (dialtoneref22_formed.calls ((rd_T41 l0 x3_1).f0) ((rd_T41 l0 x3_1).f1) ((rd_T41 l0 x3_1).f2) ((rd_T41 l0 x3_1).f3.f0) ((rd_T41 l0 x3_1).f3.f1) false _ A5.out).mono ?_); rintro e w18 ⟨rfl, hb⟩; replace HB := Aside0.mk (below_step (zW HB) hb); (try clear hb); (try clear hb2); (try clear hk); (try clear hi))))
    go_ret
    exact ⟨zq6, zq18⟩
   subst c6
   rw [if_pos rfl] at H
   have H' := Aside0.mk H
   clear H
   have p349 : 0 ≤ (x3_1 : Int) := of_decide_eq_true (zq9)
   have q349 : x3_1 < (l0.length : Int) := of_decide_eq_true (zq9)
   obtain ⟨ad349, e349, hx349_0, hx349_1, hx349_2, hx349_3, hx349_4⟩ := at_T41 HR0.out x3_1 p349 q349
   cases e349
   replace hx349_0 := (HB.out.cell (World.block_lt_of_cell? w _ hx349_0)).trans hx349_0
   replace hx349_1 := (HB.out.cell (World.block_lt_of_cell? w _ hx349_1)).trans hx349_1
   replace hx349_2 := (HB.out.cell (World.block_lt_of_cell? w _ hx349_2)).trans hx349_2
   replace hx349_3 := (HB.out.cell (World.block_lt_of_cell? w _ hx349_3)).trans hx349_3
   replace hx349_4 := (HB.out.cell (World.block_lt_of_cell? w _ hx349_4)).trans hx349_4
   replace p349 := eq_true p349
   replace q349 := eq_true q349
   go_wp2_with (first | (go_at_call 48; (with_reducible refine (dialtoneref22_formed.calls ((rd_T41 l0 x3_1).f0) ((rd_T41 l0 x3_1).f1) ((rd_T41 l0 x3_1).f2) ((rd_T41 l0 x3_1).f3.f0) ((rd_T41 l0 x3_1).f3.f1) true _ A5.out).mono ?_); rintro e w7 ⟨rfl, hb⟩; replace HB := Aside0.mk (below_step (zW HB) hb); (try clear hb); (try clear hb2); (try clear hk); (try clear hi)))
   repeat (go_quiet (first | (go_at_call 48; (with_reducible refine (dialtoneref22_formed.calls ((rd_T41 l0 x3_1).f0) ((rd_T41 l0 x3_1).f1) ((rd_T41 l0 x3_1).f2) ((rd_T41 l0 x3_1).f3.f0) ((rd_T41 l0 x3_1).f3.f1) true _ A5.out).mono ?_); rintro e w7 ⟨rfl, hb⟩; replace HB := Aside0.mk (below_step (zW HB) hb); (try clear hb); (try clear hb2); (try clear hk); (try clear hi))); try go_wp2_with (first | (go_at_call 48; (with_reducible refine (dialtoneref22_formed.calls ((rd_T41 l0 x3_1).f0) ((rd_T41 l0 x3_1).f1) ((rd_T41 l0 x3_1).f2) ((rd_T41 l0 x3_1).f3.f0) ((rd_T41 l0 x3_1).f3.f1) true _ A5.out).mono ?_); rintro e w7 ⟨rfl, hb⟩; replace HB := Aside0.mk (below_step (zW HB) hb); (try clear hb); (try clear hb2); (try clear hk); (try clear hi))))
   go_loopg [4] k1 (fun kq v4 w' => ∃ (x4_2 : Int), v4 = .int .i64 x4_2 ∧ Aside0 (dialtoneref22_Settings.l1 kq l0 x3_1 x4_2 = some r) ∧ Aside0 (kq ≤ k1) ∧ Aside0 (Below w.heap.size w w'))
   case atStart => exact ⟨(0), (zq2), H', ⟨Nat.le_refl _⟩, ⟨zq18⟩⟩
   case round =>
    clear H'
    try clear c2
    try clear c2b0
    try clear c2b1
    try clear p2
    try clear c3
    try clear c3b0
    try clear p3
    try clear q3
    try clear hx3
    try clear c4
    try clear c4b0
    try clear c6
    try clear hx349_0
    try clear hx349_1
    try clear hx349_2
    try clear hx349_3
    try clear hx349_4
    try clear p2
    try clear p349
    try clear q349
    obtain ⟨x4_2, rfl, HA, HK2, HB⟩ := hrel
    cases gk with
    | zero => exact absurd HA.out (by simp [dialtoneref22_Settings.l1])
    | succ k2 =>
     have H := HA.out
     clear HA
     simp only [dialtoneref22_Settings.l1] at H
     by_cases c8 : x4_2 < x3_1
     rotate_left
     ·rw [if_neg c8] at H
      have c8b0 : decide (x4_2 < x3_1) = false := decide_eq_false c8
      clear c8
      have H' := Aside0.mk H
      clear H
      go_wp2
      repeat (go_quiet (fail); try go_wp2)
      go_roundg k2
      case measure => have := HK1.out; have := HK2.out; omega
      case rel => exact ⟨(wrap64 (x3_1 + 1)), (zq2), H', ⟨zq29⟩, ⟨zq18⟩⟩
     rw [if_pos c8] at H
     have c8b0 : decide (x4_2 < x3_1) = true := decide_eq_true c8
     clear c8
     by_cases c9 : 0 ≤ x3_1
     rotate_left
     ·rw [if_neg c9] at H
      exact absurd H (by simp)
     rw [if_pos c9] at H
     have c9b0 : decide (0 ≤ x3_1) = true := decide_eq_true c9
     clear c9
     by_cases c10 : x3_1 < (l0.length : Int)
     rotate_left
     ·rw [if_neg c10] at H
      exact absurd H (by simp)
     rw [if_pos c10] at H
     have c10b0 : decide (x3_1 < (l0.length : Int)) = true := decide_eq_true c10
     clear c10
     by_cases c11 : 0 ≤ x4_2
     rotate_left
     ·rw [if_neg c11] at H
      exact absurd H (by simp)
     rw [if_pos c11] at H
     have c11b0 : decide (0 ≤ x4_2) = true := decide_eq_true c11
     clear c11
     by_cases c12 : x4_2 < (l0.length : Int)
     rotate_left
     ·rw [if_neg c12] at H
      exact absurd H (by simp)
     rw [if_pos c12] at H
     have c12b0 : decide (x4_2 < (l0.length : Int)) = true := decide_eq_true c12
     clear c12
     by_cases c13 : ((rd_T41 l0 x3_1).f0) = ((rd_T41 l0 x4_2).f0)
     rotate_left
     ·rw [if_neg c13] at H
      have c13b0 : (((rd_T41 l0 x3_1).f0) == ((rd_T41 l0 x4_2).f0)) = false := beq_eq_false_iff_ne.mpr c13
      have c13b1 : (((rd_T41 l0 x3_1).f0) != ((rd_T41 l0 x4_2).f0)) = true := bne_iff_ne.mpr c13
      have H' := Aside0.mk H
      clear H
      have p351 : 0 ≤ (x3_1 : Int) := of_decide_eq_true (zq9)
      have q351 : x3_1 < (l0.length : Int) := of_decide_eq_true (zq9)
      obtain ⟨ad351, e351, hx351_0, hx351_1, hx351_2, hx351_3, hx351_4⟩ := at_T41 HR0.out x3_1 p351 q351
      obtain rfl : ad349 = ad351 := (by injection e351)
      replace hx351_0 := (HB.out.cell (World.block_lt_of_cell? w _ hx351_0)).trans hx351_0
      replace hx351_1 := (HB.out.cell (World.block_lt_of_cell? w _ hx351_1)).trans hx351_1
      replace hx351_2 := (HB.out.cell (World.block_lt_of_cell? w _ hx351_2)).trans hx351_2
      replace hx351_3 := (HB.out.cell (World.block_lt_of_cell? w _ hx351_3)).trans hx351_3
      replace hx351_4 := (HB.out.cell (World.block_lt_of_cell? w _ hx351_4)).trans hx351_4
      replace p351 := eq_true p351
      replace q351 := eq_true q351
      have p352 : 0 ≤ (x4_2 : Int) := of_decide_eq_true (zq9)
      have q352 : x4_2 < (l0.length : Int) := of_decide_eq_true (zq9)
      obtain ⟨ad352, e352, hx352_0, hx352_1, hx352_2, hx352_3, hx352_4⟩ := at_T41 HR0.out x4_2 p352 q352
      obtain rfl : ad349 = ad352 := (by injection e352)
      replace hx352_0 := (HB.out.cell (World.block_lt_of_cell? w _ hx352_0)).trans hx352_0
      replace hx352_1 := (HB.out.cell (World.block_lt_of_cell? w _ hx352_1)).trans hx352_1
      replace hx352_2 := (HB.out.cell (World.block_lt_of_cell? w _ hx352_2)).trans hx352_2
      replace hx352_3 := (HB.out.cell (World.block_lt_of_cell? w _ hx352_3)).trans hx352_3
      replace hx352_4 := (HB.out.cell (World.block_lt_of_cell? w _ hx352_4)).trans hx352_4
      replace p352 := eq_true p352
      replace q352 := eq_true q352
      go_wp2
      repeat (go_quiet (fail); try go_wp2)
      go_roundg k2
      case measure => have := HK1.out; have := HK2.out; omega
      case rel => exact ⟨(wrap64 (x4_2 + 1)), (zq2), H', ⟨zq29⟩, ⟨zq18⟩⟩
     rw [if_pos c13] at H
     have c13b0 : (((rd_T41 l0 x3_1).f0) == ((rd_T41 l0 x4_2).f0)) = true := beq_iff_eq.mpr c13
     have c13b1 : (((rd_T41 l0 x3_1).f0) != ((rd_T41 l0 x4_2).f0)) = false := bne_eq_false_iff_eq.mpr c13
     clear c13
     by_cases c14 : ((rd_T41 l0 x3_1).f1) = ((rd_T41 l0 x4_2).f1)
     rotate_left
     ·rw [if_neg c14] at H
      have c14b0 : (((rd_T41 l0 x3_1).f1) == ((rd_T41 l0 x4_2).f1)) = false := beq_eq_false_iff_ne.mpr c14
      have c14b1 : (((rd_T41 l0 x3_1).f1) != ((rd_T41 l0 x4_2).f1)) = true := bne_iff_ne.mpr c14
      have H' := Aside0.mk H
      clear H
      have p351 : 0 ≤ (x3_1 : Int) := of_decide_eq_true (zq9)
      have q351 : x3_1 < (l0.length : Int) := of_decide_eq_true (zq9)
      obtain ⟨ad351, e351, hx351_0, hx351_1, hx351_2, hx351_3, hx351_4⟩ := at_T41 HR0.out x3_1 p351 q351
      obtain rfl : ad349 = ad351 := (by injection e351)
      replace hx351_0 := (HB.out.cell (World.block_lt_of_cell? w _ hx351_0)).trans hx351_0
      replace hx351_1 := (HB.out.cell (World.block_lt_of_cell? w _ hx351_1)).trans hx351_1
      replace hx351_2 := (HB.out.cell (World.block_lt_of_cell? w _ hx351_2)).trans hx351_2
      replace hx351_3 := (HB.out.cell (World.block_lt_of_cell? w _ hx351_3)).trans hx351_3
      replace hx351_4 := (HB.out.cell (World.block_lt_of_cell? w _ hx351_4)).trans hx351_4
      replace p351 := eq_true p351
      replace q351 := eq_true q351
      have p352 : 0 ≤ (x4_2 : Int) := of_decide_eq_true (zq9)
      have q352 : x4_2 < (l0.length : Int) := of_decide_eq_true (zq9)
      obtain ⟨ad352, e352, hx352_0, hx352_1, hx352_2, hx352_3, hx352_4⟩ := at_T41 HR0.out x4_2 p352 q352
      obtain rfl : ad349 = ad352 := (by injection e352)
      replace hx352_0 := (HB.out.cell (World.block_lt_of_cell? w _ hx352_0)).trans hx352_0
      replace hx352_1 := (HB.out.cell (World.block_lt_of_cell? w _ hx352_1)).trans hx352_1
      replace hx352_2 := (HB.out.cell (World.block_lt_of_cell? w _ hx352_2)).trans hx352_2
      replace hx352_3 := (HB.out.cell (World.block_lt_of_cell? w _ hx352_3)).trans hx352_3
      replace hx352_4 := (HB.out.cell (World.block_lt_of_cell? w _ hx352_4)).trans hx352_4
      replace p352 := eq_true p352
      replace q352 := eq_true q352
      have p353 : 0 ≤ (x3_1 : Int) := of_decide_eq_true (zq9)
      have q353 : x3_1 < (l0.length : Int) := of_decide_eq_true (zq9)
      obtain ⟨ad353, e353, hx353_0, hx353_1, hx353_2, hx353_3, hx353_4⟩ := at_T41 HR0.out x3_1 p353 q353
      obtain rfl : ad349 = ad353 := (by injection e353)
      replace hx353_0 := (HB.out.cell (World.block_lt_of_cell? w _ hx353_0)).trans hx353_0
      replace hx353_1 := (HB.out.cell (World.block_lt_of_cell? w _ hx353_1)).trans hx353_1
      replace hx353_2 := (HB.out.cell (World.block_lt_of_cell? w _ hx353_2)).trans hx353_2
      replace hx353_3 := (HB.out.cell (World.block_lt_of_cell? w _ hx353_3)).trans hx353_3
      replace hx353_4 := (HB.out.cell (World.block_lt_of_cell? w _ hx353_4)).trans hx353_4
      replace p353 := eq_true p353
      replace q353 := eq_true q353
      have p354 : 0 ≤ (x4_2 : Int) := of_decide_eq_true (zq9)
      have q354 : x4_2 < (l0.length : Int) := of_decide_eq_true (zq9)
      obtain ⟨ad354, e354, hx354_0, hx354_1, hx354_2, hx354_3, hx354_4⟩ := at_T41 HR0.out x4_2 p354 q354
      obtain rfl : ad349 = ad354 := (by injection e354)
      replace hx354_0 := (HB.out.cell (World.block_lt_of_cell? w _ hx354_0)).trans hx354_0
      replace hx354_1 := (HB.out.cell (World.block_lt_of_cell? w _ hx354_1)).trans hx354_1
      replace hx354_2 := (HB.out.cell (World.block_lt_of_cell? w _ hx354_2)).trans hx354_2
      replace hx354_3 := (HB.out.cell (World.block_lt_of_cell? w _ hx354_3)).trans hx354_3
      replace hx354_4 := (HB.out.cell (World.block_lt_of_cell? w _ hx354_4)).trans hx354_4
      replace p354 := eq_true p354
      replace q354 := eq_true q354
      go_wp2
      repeat (go_quiet (fail); try go_wp2)
      go_roundg k2
      case measure => have := HK1.out; have := HK2.out; omega
      case rel => exact ⟨(wrap64 (x4_2 + 1)), (zq2), H', ⟨zq29⟩, ⟨zq18⟩⟩
     rw [if_pos c14] at H
     have c14b0 : (((rd_T41 l0 x3_1).f1) == ((rd_T41 l0 x4_2).f1)) = true := beq_iff_eq.mpr c14
     have c14b1 : (((rd_T41 l0 x3_1).f1) != ((rd_T41 l0 x4_2).f1)) = false := bne_eq_false_iff_eq.mpr c14
     clear c14
     obtain ⟨ji15, hji15⟩ : ∃ j_ : Int, (mx ((rd_T41 l0 x3_1).f3.f0) ((rd_T41 l0 x4_2).f3.f0)) = j_ := ⟨_, rfl⟩
     replace H : (if (ji15) < (mn ((rd_T41 l0 x3_1).f3.f1) ((rd_T41 l0 x4_2).f3.f1)) then (some false) else (dialtoneref22_Settings.l1 k2 l0 x3_1 (wrap64 (x4_2 + 1)))) = some r := by first | (rw [hji15] at H; exact H) | (simp only [hji15] at H ⊢; exact H)
     have hji15_ : (if ((rd_T41 l0 x3_1).f3.f0) < ((rd_T41 l0 x4_2).f3.f0) then ((rd_T41 l0 x4_2).f3.f0) else ((rd_T41 l0 x3_1).f3.f0)) = ji15 := hji15
     obtain ⟨ji16, hji16⟩ : ∃ j_ : Int, (mn ((rd_T41 l0 x3_1).f3.f1) ((rd_T41 l0 x4_2).f3.f1)) = j_ := ⟨_, rfl⟩
     replace H : (if (ji15) < (ji16) then (some false) else (dialtoneref22_Settings.l1 k2 l0 x3_1 (wrap64 (x4_2 + 1)))) = some r := by first | (rw [hji16] at H; exact H) | (simp only [hji16] at H ⊢; exact H)
     have hji16_ : (if ((rd_T41 l0 x4_2).f3.f1) < ((rd_T41 l0 x3_1).f3.f1) then ((rd_T41 l0 x4_2).f3.f1) else ((rd_T41 l0 x3_1).f3.f1)) = ji16 := hji16
     by_cases c17 : (ji15) < (ji16)
     ·rw [if_pos c17] at H
      have c17b0 : decide ((ji15) < (ji16)) = true := decide_eq_true c17
      clear c17
      obtain rfl := Option.some.inj H
      have p351 : 0 ≤ (x3_1 : Int) := of_decide_eq_true (zq9)
      have q351 : x3_1 < (l0.length : Int) := of_decide_eq_true (zq9)
      obtain ⟨ad351, e351, hx351_0, hx351_1, hx351_2, hx351_3, hx351_4⟩ := at_T41 HR0.out x3_1 p351 q351
      obtain rfl : ad349 = ad351 := (by injection e351)
      replace hx351_0 := (HB.out.cell (World.block_lt_of_cell? w _ hx351_0)).trans hx351_0
      replace hx351_1 := (HB.out.cell (World.block_lt_of_cell? w _ hx351_1)).trans hx351_1
      replace hx351_2 := (HB.out.cell (World.block_lt_of_cell? w _ hx351_2)).trans hx351_2
      replace hx351_3 := (HB.out.cell (World.block_lt_of_cell? w _ hx351_3)).trans hx351_3
      replace hx351_4 := (HB.out.cell (World.block_lt_of_cell? w _ hx351_4)).trans hx351_4
      replace p351 := eq_true p351
      replace q351 := eq_true q351
      have p352 : 0 ≤ (x4_2 : Int) := of_decide_eq_true (zq9)
      have q352 : x4_2 < (l0.length : Int) := of_decide_eq_true (zq9)
      obtain ⟨ad352, e352, hx352_0, hx352_1, hx352_2, hx352_3, hx352_4⟩ := at_T41 HR0.out x4_2 p352 q352
      obtain rfl : ad349 = ad352 := (by injection e352)
      replace hx352_0 := (HB.out.cell (World.block_lt_of_cell? w _ hx352_0)).trans hx352_0
      replace hx352_1 := (HB.out.cell (World.block_lt_of_cell? w _ hx352_1)).trans hx352_1
      replace hx352_2 := (HB.out.cell (World.block_lt_of_cell? w _ hx352_2)).trans hx352_2
      replace hx352_3 := (HB.out.cell (World.block_lt_of_cell? w _ hx352_3)).trans hx352_3
      replace hx352_4 := (HB.out.cell (World.block_lt_of_cell? w _ hx352_4)).trans hx352_4
      replace p352 := eq_true p352
      replace q352 := eq_true q352
      have p353 : 0 ≤ (x3_1 : Int) := of_decide_eq_true (zq9)
      have q353 : x3_1 < (l0.length : Int) := of_decide_eq_true (zq9)
      obtain ⟨ad353, e353, hx353_0, hx353_1, hx353_2, hx353_3, hx353_4⟩ := at_T41 HR0.out x3_1 p353 q353
      obtain rfl : ad349 = ad353 := (by injection e353)
      replace hx353_0 := (HB.out.cell (World.block_lt_of_cell? w _ hx353_0)).trans hx353_0
      replace hx353_1 := (HB.out.cell (World.block_lt_of_cell? w _ hx353_1)).trans hx353_1
      replace hx353_2 := (HB.out.cell (World.block_lt_of_cell? w _ hx353_2)).trans hx353_2
      replace hx353_3 := (HB.out.cell (World.block_lt_of_cell? w _ hx353_3)).trans hx353_3
      replace hx353_4 := (HB.out.cell (World.block_lt_of_cell? w _ hx353_4)).trans hx353_4
      replace p353 := eq_true p353
      replace q353 := eq_true q353
      have p354 : 0 ≤ (x4_2 : Int) := of_decide_eq_true (zq9)
      have q354 : x4_2 < (l0.length : Int) := of_decide_eq_true (zq9)
      obtain ⟨ad354, e354, hx354_0, hx354_1, hx354_2, hx354_3, hx354_4⟩ := at_T41 HR0.out x4_2 p354 q354
      obtain rfl : ad349 = ad354 := (by injection e354)
      replace hx354_0 := (HB.out.cell (World.block_lt_of_cell? w _ hx354_0)).trans hx354_0
      replace hx354_1 := (HB.out.cell (World.block_lt_of_cell? w _ hx354_1)).trans hx354_1
      replace hx354_2 := (HB.out.cell (World.block_lt_of_cell? w _ hx354_2)).trans hx354_2
      replace hx354_3 := (HB.out.cell (World.block_lt_of_cell? w _ hx354_3)).trans hx354_3
      replace hx354_4 := (HB.out.cell (World.block_lt_of_cell? w _ hx354_4)).trans hx354_4
      replace p354 := eq_true p354
      replace q354 := eq_true q354
      have p355 : 0 ≤ (x3_1 : Int) := of_decide_eq_true (zq9)
      have q355 : x3_1 < (l0.length : Int) := of_decide_eq_true (zq9)
      obtain ⟨ad355, e355, hx355_0, hx355_1, hx355_2, hx355_3, hx355_4⟩ := at_T41 HR0.out x3_1 p355 q355
      obtain rfl : ad349 = ad355 := (by injection e355)
      replace hx355_0 := (HB.out.cell (World.block_lt_of_cell? w _ hx355_0)).trans hx355_0
      replace hx355_1 := (HB.out.cell (World.block_lt_of_cell? w _ hx355_1)).trans hx355_1
      replace hx355_2 := (HB.out.cell (World.block_lt_of_cell? w _ hx355_2)).trans hx355_2
      replace hx355_3 := (HB.out.cell (World.block_lt_of_cell? w _ hx355_3)).trans hx355_3
      replace hx355_4 := (HB.out.cell (World.block_lt_of_cell? w _ hx355_4)).trans hx355_4
      replace p355 := eq_true p355
      replace q355 := eq_true q355
      have p356 : 0 ≤ (x4_2 : Int) := of_decide_eq_true (zq9)
      have q356 : x4_2 < (l0.length : Int) := of_decide_eq_true (zq9)
      obtain ⟨ad356, e356, hx356_0, hx356_1, hx356_2, hx356_3, hx356_4⟩ := at_T41 HR0.out x4_2 p356 q356
      obtain rfl : ad349 = ad356 := (by injection e356)
      replace hx356_0 := (HB.out.cell (World.block_lt_of_cell? w _ hx356_0)).trans hx356_0
      replace hx356_1 := (HB.out.cell (World.block_lt_of_cell? w _ hx356_1)).trans hx356_1
      replace hx356_2 := (HB.out.cell (World.block_lt_of_cell? w _ hx356_2)).trans hx356_2
      replace hx356_3 := (HB.out.cell (World.block_lt_of_cell? w _ hx356_3)).trans hx356_3
      replace hx356_4 := (HB.out.cell (World.block_lt_of_cell? w _ hx356_4)).trans hx356_4
      replace p356 := eq_true p356
      replace q356 := eq_true q356
      have p357 : 0 ≤ (x3_1 : Int) := of_decide_eq_true (zq9)
      have q357 : x3_1 < (l0.length : Int) := of_decide_eq_true (zq9)
      obtain ⟨ad357, e357, hx357_0, hx357_1, hx357_2, hx357_3, hx357_4⟩ := at_T41 HR0.out x3_1 p357 q357
      obtain rfl : ad349 = ad357 := (by injection e357)
      replace hx357_0 := (HB.out.cell (World.block_lt_of_cell? w _ hx357_0)).trans hx357_0
      replace hx357_1 := (HB.out.cell (World.block_lt_of_cell? w _ hx357_1)).trans hx357_1
      replace hx357_2 := (HB.out.cell (World.block_lt_of_cell? w _ hx357_2)).trans hx357_2
      replace hx357_3 := (HB.out.cell (World.block_lt_of_cell? w _ hx357_3)).trans hx357_3
      replace hx357_4 := (HB.out.cell (World.block_lt_of_cell? w _ hx357_4)).trans hx357_4
      replace p357 := eq_true p357
      replace q357 := eq_true q357
      have p358 : 0 ≤ (x4_2 : Int) := of_decide_eq_true (zq9)
      have q358 : x4_2 < (l0.length : Int) := of_decide_eq_true (zq9)
      obtain ⟨ad358, e358, hx358_0, hx358_1, hx358_2, hx358_3, hx358_4⟩ := at_T41 HR0.out x4_2 p358 q358
      obtain rfl : ad349 = ad358 := (by injection e358)
      replace hx358_0 := (HB.out.cell (World.block_lt_of_cell? w _ hx358_0)).trans hx358_0
      replace hx358_1 := (HB.out.cell (World.block_lt_of_cell? w _ hx358_1)).trans hx358_1
      replace hx358_2 := (HB.out.cell (World.block_lt_of_cell? w _ hx358_2)).trans hx358_2
      replace hx358_3 := (HB.out.cell (World.block_lt_of_cell? w _ hx358_3)).trans hx358_3
      replace hx358_4 := (HB.out.cell (World.block_lt_of_cell? w _ hx358_4)).trans hx358_4
      replace p358 := eq_true p358
      replace q358 := eq_true q358
      go_wp2
      repeat (go_quiet (fail); try go_wp2)
      go_ret
      exact ⟨by first | rfl | (simp [errW_none, errW_some] <;> rfl) | (simp only [← hji15, ← hji16]; first | rfl | (simp [errW_none, errW_some] <;> rfl)) | (simp [*, errW_none, errW_some] <;> rfl), zq18⟩
     rw [if_neg c17] at H
     have c17b0 : decide ((ji15) < (ji16)) = false := decide_eq_false c17
     clear c17
     have H' := Aside0.mk H
     clear H
     have p351 : 0 ≤ (x3_1 : Int) := of_decide_eq_true (zq9)
     have q351 : x3_1 < (l0.length : Int) := of_decide_eq_true (zq9)
     obtain ⟨ad351, e351, hx351_0, hx351_1, hx351_2, hx351_3, hx351_4⟩ := at_T41 HR0.out x3_1 p351 q351
     obtain rfl : ad349 = ad351 := (by injection e351)
     replace hx351_0 := (HB.out.cell (World.block_lt_of_cell? w _ hx351_0)).trans hx351_0
     replace hx351_1 := (HB.out.cell (World.block_lt_of_cell? w _ hx351_1)).trans hx351_1
     replace hx351_2 := (HB.out.cell (World.block_lt_of_cell? w _ hx351_2)).trans hx351_2
     replace hx351_3 := (HB.out.cell (World.block_lt_of_cell? w _ hx351_3)).trans hx351_3
     replace hx351_4 := (HB.out.cell (World.block_lt_of_cell? w _ hx351_4)).trans hx351_4
     replace p351 := eq_true p351
     replace q351 := eq_true q351
     have p352 : 0 ≤ (x4_2 : Int) := of_decide_eq_true (zq9)
     have q352 : x4_2 < (l0.length : Int) := of_decide_eq_true (zq9)
     obtain ⟨ad352, e352, hx352_0, hx352_1, hx352_2, hx352_3, hx352_4⟩ := at_T41 HR0.out x4_2 p352 q352
     obtain rfl : ad349 = ad352 := (by injection e352)
     replace hx352_0 := (HB.out.cell (World.block_lt_of_cell? w _ hx352_0)).trans hx352_0
     replace hx352_1 := (HB.out.cell (World.block_lt_of_cell? w _ hx352_1)).trans hx352_1
     replace hx352_2 := (HB.out.cell (World.block_lt_of_cell? w _ hx352_2)).trans hx352_2
     replace hx352_3 := (HB.out.cell (World.block_lt_of_cell? w _ hx352_3)).trans hx352_3
     replace hx352_4 := (HB.out.cell (World.block_lt_of_cell? w _ hx352_4)).trans hx352_4
     replace p352 := eq_true p352
     replace q352 := eq_true q352
     have p353 : 0 ≤ (x3_1 : Int) := of_decide_eq_true (zq9)
     have q353 : x3_1 < (l0.length : Int) := of_decide_eq_true (zq9)
     obtain ⟨ad353, e353, hx353_0, hx353_1, hx353_2, hx353_3, hx353_4⟩ := at_T41 HR0.out x3_1 p353 q353
     obtain rfl : ad349 = ad353 := (by injection e353)
     replace hx353_0 := (HB.out.cell (World.block_lt_of_cell? w _ hx353_0)).trans hx353_0
     replace hx353_1 := (HB.out.cell (World.block_lt_of_cell? w _ hx353_1)).trans hx353_1
     replace hx353_2 := (HB.out.cell (World.block_lt_of_cell? w _ hx353_2)).trans hx353_2
     replace hx353_3 := (HB.out.cell (World.block_lt_of_cell? w _ hx353_3)).trans hx353_3
     replace hx353_4 := (HB.out.cell (World.block_lt_of_cell? w _ hx353_4)).trans hx353_4
     replace p353 := eq_true p353
     replace q353 := eq_true q353
     have p354 : 0 ≤ (x4_2 : Int) := of_decide_eq_true (zq9)
     have q354 : x4_2 < (l0.length : Int) := of_decide_eq_true (zq9)
     obtain ⟨ad354, e354, hx354_0, hx354_1, hx354_2, hx354_3, hx354_4⟩ := at_T41 HR0.out x4_2 p354 q354
     obtain rfl : ad349 = ad354 := (by injection e354)
     replace hx354_0 := (HB.out.cell (World.block_lt_of_cell? w _ hx354_0)).trans hx354_0
     replace hx354_1 := (HB.out.cell (World.block_lt_of_cell? w _ hx354_1)).trans hx354_1
     replace hx354_2 := (HB.out.cell (World.block_lt_of_cell? w _ hx354_2)).trans hx354_2
     replace hx354_3 := (HB.out.cell (World.block_lt_of_cell? w _ hx354_3)).trans hx354_3
     replace hx354_4 := (HB.out.cell (World.block_lt_of_cell? w _ hx354_4)).trans hx354_4
     replace p354 := eq_true p354
     replace q354 := eq_true q354
     have p355 : 0 ≤ (x3_1 : Int) := of_decide_eq_true (zq9)
     have q355 : x3_1 < (l0.length : Int) := of_decide_eq_true (zq9)
     obtain ⟨ad355, e355, hx355_0, hx355_1, hx355_2, hx355_3, hx355_4⟩ := at_T41 HR0.out x3_1 p355 q355
     obtain rfl : ad349 = ad355 := (by injection e355)
     replace hx355_0 := (HB.out.cell (World.block_lt_of_cell? w _ hx355_0)).trans hx355_0
     replace hx355_1 := (HB.out.cell (World.block_lt_of_cell? w _ hx355_1)).trans hx355_1
     replace hx355_2 := (HB.out.cell (World.block_lt_of_cell? w _ hx355_2)).trans hx355_2
     replace hx355_3 := (HB.out.cell (World.block_lt_of_cell? w _ hx355_3)).trans hx355_3
     replace hx355_4 := (HB.out.cell (World.block_lt_of_cell? w _ hx355_4)).trans hx355_4
     replace p355 := eq_true p355
     replace q355 := eq_true q355
     have p356 : 0 ≤ (x4_2 : Int) := of_decide_eq_true (zq9)
     have q356 : x4_2 < (l0.length : Int) := of_decide_eq_true (zq9)
     obtain ⟨ad356, e356, hx356_0, hx356_1, hx356_2, hx356_3, hx356_4⟩ := at_T41 HR0.out x4_2 p356 q356
     obtain rfl : ad349 = ad356 := (by injection e356)
     replace hx356_0 := (HB.out.cell (World.block_lt_of_cell? w _ hx356_0)).trans hx356_0
     replace hx356_1 := (HB.out.cell (World.block_lt_of_cell? w _ hx356_1)).trans hx356_1
     replace hx356_2 := (HB.out.cell (World.block_lt_of_cell? w _ hx356_2)).trans hx356_2
     replace hx356_3 := (HB.out.cell (World.block_lt_of_cell? w _ hx356_3)).trans hx356_3
     replace hx356_4 := (HB.out.cell (World.block_lt_of_cell? w _ hx356_4)).trans hx356_4
     replace p356 := eq_true p356
     replace q356 := eq_true q356
     have p357 : 0 ≤ (x3_1 : Int) := of_decide_eq_true (zq9)
     have q357 : x3_1 < (l0.length : Int) := of_decide_eq_true (zq9)
     obtain ⟨ad357, e357, hx357_0, hx357_1, hx357_2, hx357_3, hx357_4⟩ := at_T41 HR0.out x3_1 p357 q357
     obtain rfl : ad349 = ad357 := (by injection e357)
     replace hx357_0 := (HB.out.cell (World.block_lt_of_cell? w _ hx357_0)).trans hx357_0
     replace hx357_1 := (HB.out.cell (World.block_lt_of_cell? w _ hx357_1)).trans hx357_1
     replace hx357_2 := (HB.out.cell (World.block_lt_of_cell? w _ hx357_2)).trans hx357_2
     replace hx357_3 := (HB.out.cell (World.block_lt_of_cell? w _ hx357_3)).trans hx357_3
     replace hx357_4 := (HB.out.cell (World.block_lt_of_cell? w _ hx357_4)).trans hx357_4
     replace p357 := eq_true p357
     replace q357 := eq_true q357
     have p358 : 0 ≤ (x4_2 : Int) := of_decide_eq_true (zq9)
     have q358 : x4_2 < (l0.length : Int) := of_decide_eq_true (zq9)
     obtain ⟨ad358, e358, hx358_0, hx358_1, hx358_2, hx358_3, hx358_4⟩ := at_T41 HR0.out x4_2 p358 q358
     obtain rfl : ad349 = ad358 := (by injection e358)
     replace hx358_0 := (HB.out.cell (World.block_lt_of_cell? w _ hx358_0)).trans hx358_0
     replace hx358_1 := (HB.out.cell (World.block_lt_of_cell? w _ hx358_1)).trans hx358_1
     replace hx358_2 := (HB.out.cell (World.block_lt_of_cell? w _ hx358_2)).trans hx358_2
     replace hx358_3 := (HB.out.cell (World.block_lt_of_cell? w _ hx358_3)).trans hx358_3
     replace hx358_4 := (HB.out.cell (World.block_lt_of_cell? w _ hx358_4)).trans hx358_4
     replace p358 := eq_true p358
     replace q358 := eq_true q358
     go_wp2
     repeat (go_quiet (fail); try go_wp2)
     go_roundg k2
     case measure => have := HK1.out; have := HK2.out; omega
     case rel => exact ⟨(wrap64 (x4_2 + 1)), (zq2), H', ⟨zq29⟩, ⟨zq18⟩⟩
end Go.Proofs.YtkfejgdeknemaaaGreatDoor.Fw
end
section
open Go.Proofs.YtkfejgdeknemaaaGreatDoor.Z
namespace Go.Proofs.YtkfejgdeknemaaaGreatDoor.Fw
open Go.RowKit Go.Proofs.YtkfejgdeknemaaaGreatDoorW.PrintWords Go.Proofs.YtkfejgdeknemaaaGreatDoorW.PrintLast Go.Proofs.YtkfejgdeknemaaaGreatDoorW.PrintMore
attribute [local go_sem] max2_int min2_int max_two min_two max_three min_three max_four min_four
set_option linter.unusedVariables false
set_option linter.unusedSimpArgs false
mutual
def dialtoneref22_Made.l0 : Nat → List (S66) → List (S41) → Int → Option ((List (S41)))
 | 0, _, _, _ => none
 | k + 1, x0, x3, x4 => if x4 < (x0.length : Int) then (dialtoneref22_Made.j1 k x0 x3 x4 (decide (x4 < 16))) else (dialtoneref22_Made.j1 k x0 x3 x4 false)
def dialtoneref22_Made.j1 : Nat → List (S66) → List (S41) → Int → Bool → Option ((List (S41)))
 | 0, _, _, _, _ => none
 | k + 1, x0, x3, x4, x13 => if x13 = true then ((some (([] : List (S41)) : List (S41))).bind fun y359 => (if y359.length + x3.length < 3518437208883 then ((some (y359 ++ x3 : List (S41))).bind fun y362 => (if 0 ≤ x4 then (if x4 < (x0.length : Int) then ((dialtoneref22_One.f ((rd_T66 x0 x4).f0) ((rd_T66 x0 x4).f1) ((rd_T66 x0 x4).f2) ((rd_T66 x0 x4).f3) ((rd_T66 x0 x4).f4)).bind fun bt366 => (if y362.length < 3518437208883 then ((some (y362 ++ [(⟨bt366.1, bt366.2.1, bt366.2.2.1, (⟨bt366.2.2.2.1, bt366.2.2.2.2⟩ : S39)⟩ : S41)] : List (S41))).bind fun y371 => ((dialtoneref22_Settings.f k y371).bind fun t374 => (if t374 = true then (dialtoneref22_Made.l0 k x0 y371 (wrap64 (x4 + 1))) else (dialtoneref22_Made.l0 k x0 x3 (wrap64 (x4 + 1)))))) else (none))) else (none)) else (none))) else (none))) else (some x3)
end
def dialtoneref22_Made.f (k : Nat) (l0 : List (S66)) : Option ((List (S41))) := dialtoneref22_Made.l0 k l0 ([] : List (S41)) 0
theorem dialtoneref22_Made.mono_l : ∀ k, (∀ y0 y1 y2, LeO (dialtoneref22_Made.l0 k y0 y1 y2) (dialtoneref22_Made.l0 (k + 1) y0 y1 y2)) ∧ (∀ y0 y1 y2 y3, LeO (dialtoneref22_Made.j1 k y0 y1 y2 y3) (dialtoneref22_Made.j1 (k + 1) y0 y1 y2 y3))
 | 0 => ⟨fun _ _ _ r h => by simp [dialtoneref22_Made.l0] at h, fun _ _ _ _ r h => by simp [dialtoneref22_Made.j1] at h⟩
 | k + 1 => by
  obtain ⟨ih0, ih1⟩ := dialtoneref22_Made.mono_l k
  refine ⟨?_, ?_⟩
  ·intro y0 y1 y2
   unfold dialtoneref22_Made.l0
   repeat' first
   | (with_reducible exact ih0 _ _ _)
   | (with_reducible exact ih1 _ _ _ _)
   | (with_reducible exact dialtoneref22_Settings.mono _ _)
   | (with_reducible exact LeO.refl _)
   | (with_reducible exact LeO.none _)
   | (with_reducible refine LeO.ite ?_ ?_)
   | (with_reducible refine LeO.bind ?_ (fun _ => ?_))
   | exact ih0 _ _ _
   | exact ih1 _ _ _ _
   | exact dialtoneref22_Settings.mono _ _
   | exact LeO.none _
   | refine LeO.ite ?_ ?_
   | refine LeO.bind ?_ (fun _ => ?_)
  ·intro y0 y1 y2 y3
   unfold dialtoneref22_Made.j1
   repeat' first
   | (with_reducible exact ih0 _ _ _)
   | (with_reducible exact ih1 _ _ _ _)
   | (with_reducible exact dialtoneref22_Settings.mono _ _)
   | (with_reducible exact LeO.refl _)
   | (with_reducible exact LeO.none _)
   | (with_reducible refine LeO.ite ?_ ?_)
   | (with_reducible refine LeO.bind ?_ (fun _ => ?_))
   | exact ih0 _ _ _
   | exact ih1 _ _ _ _
   | exact dialtoneref22_Settings.mono _ _
   | exact LeO.none _
   | refine LeO.ite ?_ ?_
   | refine LeO.bind ?_ (fun _ => ?_)
theorem dialtoneref22_Made.mono : ∀ a0 k, LeO (dialtoneref22_Made.f k a0) (dialtoneref22_Made.f (k + 1) a0) := by
 intro a0 k
 obtain ⟨ih0, ih1⟩ := dialtoneref22_Made.mono_l k
 unfold dialtoneref22_Made.f
 repeat' first
  | (with_reducible exact ih0 _ _ _)
  | (with_reducible exact ih1 _ _ _ _)
  | (with_reducible exact dialtoneref22_Settings.mono _ _)
  | (with_reducible exact LeO.refl _)
  | (with_reducible exact LeO.none _)
  | (with_reducible refine LeO.ite ?_ ?_)
  | (with_reducible refine LeO.bind ?_ (fun _ => ?_))
  | exact ih0 _ _ _
  | exact ih1 _ _ _ _
  | exact dialtoneref22_Settings.mono _ _
  | exact LeO.none _
  | refine LeO.ite ?_ ?_
  | refine LeO.bind ?_ (fun _ => ?_)
def dialtoneref22_Made.T5 : Bool × List (List Nat × List Nat) := (true, [([], []), ([], []), ([0, 1], [0, 1]), ([], []), ([], []), ([3, 4], [3, 4]), ([5], [5]), ([6, 2], [6]), ([7], [7]), ([2, 8, 7], [2, 8]), ([9, 9, 0, 1, 2, 3, 4, 5, 6, 7, 8, 9], [9])])
def dialtoneref22_Made.B5 : List Nat := [0, 0, 3, 0, 0, 24, 56, 127, 255, 511, 1023]
theorem dialtoneref22_Made.tab5 : rtab .any (opsOf Tryz.f8 5) = dialtoneref22_Made.T5 := by kernel_rfl
theorem dialtoneref22_Made.bits5 : waitsOk dialtoneref22_Made.T5.2 dialtoneref22_Made.B5 = true := by kernel_rfl
set_option maxHeartbeats 8000000 in
set_option maxRecDepth 100000 in
theorem dialtoneref22_Made.calls (k : Nat) (A0 : Option Addr) (c0 : Nat) (l0 : List (S66)) (r : List (S41)) (w : World) (hr0 : Kd.C k66 w A0 l0.length l0) (hc0 : l0.length ≤ c0) (h : dialtoneref22_Made.f k l0 = some r) :
 Calls Tryz.prog 8 #[.slice A0 l0.length c0] w fun e w' => ∃ v0_ : Value, e = .returned (v0_) ∧ Kd.R k41 41 w' w.heap.size (fun _ => True) v0_ r ∧ Below w.heap.size w w' := by
 have hu66 := Tryz.underlying66
 have HR0 := Aside0.mk hr0
 have HC0 := Aside0.mk hc0
 clear hr0 hc0
 have HB := Aside0.mk (Below.refl w.heap.size w)
 have H : (dialtoneref22_Made.l0 k l0 ([] : List (S41)) 0) = some r := h
 clear h
 have H' := Aside0.mk H
 clear H
 go_enter Tryz.func8, Tryz.ntmps8
 go_wp2
 go_loopg [3, 4] k (fun kq v3 v4 w' => ∃ (x3_1 : List (S41)) (x4_1 : Int), v4 = .int .i64 x4_1 ∧ Aside0 (dialtoneref22_Made.l0 kq l0 x3_1 x4_1 = some r) ∧ Aside0 (kq ≤ k) ∧ Aside0 (Kd.R k41 41 w' w.heap.size (fun _ => True) v3 x3_1) ∧ Aside0 (Below w.heap.size w w'))
 case atStart => exact ⟨(([] : List (S41))), (0), (zq2), H', ⟨Nat.le_refl _⟩, ⟨zq88⟩, ⟨zq18⟩⟩
 case round =>
  clear H'
  obtain ⟨x3_1, x4_1, rfl, HA, HK1, HO_3, HB⟩ := hrel
  cases gk with
  | zero => exact absurd HA.out (by simp [dialtoneref22_Made.l0])
  | succ k1 =>
   have H := HA.out
   clear HA
   simp only [dialtoneref22_Made.l0] at H
   have HC2 := Aside0.mk H
   clear H
   go_upto_region 3 with (fail)
   go_cut [13] (fun v13 wc => ∃ (kq : Nat) (x13_1 : Bool), v13 = .bool x13_1 ∧ Aside0 (dialtoneref22_Made.j1 kq l0 x3_1 x4_1 x13_1 = some r) ∧ Aside0 (kq ≤ k1) ∧ Aside0 (Kd.R k41 41 wc w.heap.size (fun _ => True) u3 x3_1) ∧ Aside0 (Below w.heap.size w wc))
   case first =>
    have H := HC2.out
    clear HC2
    by_cases c3 : x4_1 < (l0.length : Int)
    rotate_left
    ·rw [if_neg c3] at H
     have c3b0 : decide (x4_1 < (l0.length : Int)) = false := decide_eq_false c3
     clear c3
     (first | rw [c3b0] | (simp only [i64_w, i32_w]; rw [c3b0]) | skip)
     have H' := Aside0.mk H
     clear H
     go_wp2
     go_meet
     case rel => exact ⟨_, (false), (zq2), H', ⟨by have := HK1.out; first | omega | exact Nat.le_refl _⟩, ⟨zq89⟩, ⟨zq18⟩⟩
    rw [if_pos c3] at H
    have c3b0 : decide (x4_1 < (l0.length : Int)) = true := decide_eq_true c3
    clear c3
    (first | rw [c3b0] | (simp only [i64_w, i32_w]; rw [c3b0]) | skip)
    have H' := Aside0.mk H
    clear H
    go_wp2
    go_meet
    case rel => exact ⟨_, (decide (x4_1 < 16)), (zq2), H', ⟨by have := HK1.out; first | omega | exact Nat.le_refl _⟩, ⟨zq89⟩, ⟨zq18⟩⟩
   case rest =>
    clear HC2
    try clear p2
    try clear c3
    try clear c3b0
    obtain ⟨kq, x13_1, rfl, HA, HJ1, HO_3, HB⟩ := hcut
    cases kq with
    | zero => exact absurd HA.out (by simp [dialtoneref22_Made.j1])
    | succ kj1 =>
     have H := HA.out
     clear HA
     simp only [dialtoneref22_Made.j1] at H
     by_cases c4 : x13_1 = true
     rotate_left
     ·replace c4 := Bool.eq_false_iff.mpr c4
      subst c4
      rw [if_neg (show ¬ (false = true) by decide)] at H
      obtain rfl := Option.some.inj H
      go_wp2
      go_ret
      exact ⟨_, zq6, zq89, zq18⟩
     subst c4
     rw [if_pos rfl] at H
     obtain ⟨y359, hy359⟩ : ∃ y_ : List (S41), y_ = (([] : List (S41))) := ⟨_, rfl⟩
     replace H : (if y359.length + x3_1.length < 3518437208883 then ((some (y359 ++ x3_1 : List (S41))).bind fun y362 => (if 0 ≤ x4_1 then (if x4_1 < (l0.length : Int) then ((dialtoneref22_One.f ((rd_T66 l0 x4_1).f0) ((rd_T66 l0 x4_1).f1) ((rd_T66 l0 x4_1).f2) ((rd_T66 l0 x4_1).f3) ((rd_T66 l0 x4_1).f4)).bind fun bt366 => (if y362.length < 3518437208883 then ((some (y362 ++ [(⟨bt366.1, bt366.2.1, bt366.2.2.1, (⟨bt366.2.2.2.1, bt366.2.2.2.2⟩ : S39)⟩ : S41)] : List (S41))).bind fun y371 => ((dialtoneref22_Settings.f kj1 y371).bind fun t374 => (if t374 = true then (dialtoneref22_Made.l0 kj1 l0 y371 (wrap64 (x4_1 + 1))) else (dialtoneref22_Made.l0 kj1 l0 x3_1 (wrap64 (x4_1 + 1)))))) else (none))) else (none)) else (none))) else (none)) = some r := by first | (rw [hy359]; with_reducible exact H) | (have H2_ := (Option.bind_some _ _).symm.trans H; rw [hy359]; with_reducible exact H2_) | (have H2_ := (Option.bind_some _ _).symm.trans H; with_reducible exact H2_) | with_reducible exact H | (rw [hy359]; exact H) | exact H
     have Ny359 := Aside0.mk hy359
     clear hy359
     by_cases c5 : y359.length + x3_1.length < 3518437208883
     rotate_left
     ·rw [if_neg c5] at H
      exact absurd H (by simp)
     rw [if_pos c5] at H
     have LMc5 := Aside0.mk c5
     clear c5
     obtain ⟨y362, hy362⟩ : ∃ y_ : List (S41), y_ = (y359 ++ x3_1) := ⟨_, rfl⟩
     replace H : (if 0 ≤ x4_1 then (if x4_1 < (l0.length : Int) then ((dialtoneref22_One.f ((rd_T66 l0 x4_1).f0) ((rd_T66 l0 x4_1).f1) ((rd_T66 l0 x4_1).f2) ((rd_T66 l0 x4_1).f3) ((rd_T66 l0 x4_1).f4)).bind fun bt366 => (if y362.length < 3518437208883 then ((some (y362 ++ [(⟨bt366.1, bt366.2.1, bt366.2.2.1, (⟨bt366.2.2.2.1, bt366.2.2.2.2⟩ : S39)⟩ : S41)] : List (S41))).bind fun y371 => ((dialtoneref22_Settings.f kj1 y371).bind fun t374 => (if t374 = true then (dialtoneref22_Made.l0 kj1 l0 y371 (wrap64 (x4_1 + 1))) else (dialtoneref22_Made.l0 kj1 l0 x3_1 (wrap64 (x4_1 + 1)))))) else (none))) else (none)) else (none)) = some r := by first | (rw [hy362]; with_reducible exact H) | (have H2_ := (Option.bind_some _ _).symm.trans H; rw [hy362]; with_reducible exact H2_) | (have H2_ := (Option.bind_some _ _).symm.trans H; with_reducible exact H2_) | with_reducible exact H | (rw [hy362]; exact H) | exact H
     have Ny362 := Aside0.mk hy362
     clear hy362
     by_cases c6 : 0 ≤ x4_1
     rotate_left
     ·rw [if_neg c6] at H
      exact absurd H (by simp)
     rw [if_pos c6] at H
     have c6b0 : decide (0 ≤ x4_1) = true := decide_eq_true c6
     clear c6
     by_cases c7 : x4_1 < (l0.length : Int)
     rotate_left
     ·rw [if_neg c7] at H
      exact absurd H (by simp)
     rw [if_pos c7] at H
     have c7b0 : decide (x4_1 < (l0.length : Int)) = true := decide_eq_true c7
     clear c7
     replace H := Option.bind_eq_some_iff.mp H
     obtain ⟨⟨t366, t367, t368, t369, t370⟩, A80, H⟩ := H
     try dsimp only at H
     have A8 := Aside0.mk A80
     clear A80
     by_cases c9 : y362.length < 3518437208883
     rotate_left
     ·rw [if_neg c9] at H
      exact absurd H (by simp)
     rw [if_pos c9] at H
     have LMc9 := Aside0.mk c9
     clear c9
     obtain ⟨y371, hy371⟩ : ∃ y_ : List (S41), y_ = (y362 ++ [(⟨t366, t367, t368, (⟨t369, t370⟩ : S39)⟩ : S41)]) := ⟨_, rfl⟩
     replace H : ((dialtoneref22_Settings.f kj1 y371).bind fun t374 => (if t374 = true then (dialtoneref22_Made.l0 kj1 l0 y371 (wrap64 (x4_1 + 1))) else (dialtoneref22_Made.l0 kj1 l0 x3_1 (wrap64 (x4_1 + 1))))) = some r := by first | (rw [hy371]; with_reducible exact H) | (have H2_ := (Option.bind_some _ _).symm.trans H; rw [hy371]; with_reducible exact H2_) | (have H2_ := (Option.bind_some _ _).symm.trans H; with_reducible exact H2_) | with_reducible exact H | (rw [hy371]; exact H) | exact H
     have Ny371 := Aside0.mk hy371
     clear hy371
     replace H := Option.bind_eq_some_iff.mp H
     obtain ⟨t374, A100, H⟩ := H
     try dsimp only at H
     have A10 := Aside0.mk A100
     clear A100
     by_cases c11 : t374 = true
     ·subst c11
      rw [if_pos rfl] at H
      have H' := Aside0.mk H
      clear H
      try go_wp2
      replace HO_3 := Aside0.mk (Kd.R_drew HO_3.out)
      replace HB := Aside0.mk (below_drew1 HB.out)
      have p365 : 0 ≤ (x4_1 : Int) := of_decide_eq_true (zq9)
      have q365 : x4_1 < (l0.length : Int) := of_decide_eq_true (zq9)
      obtain ⟨ad365, e365, hx365_0, hx365_1, hx365_2, hx365_3, hx365_4⟩ := at_T66 HR0.out x4_1 p365 q365
      have hw365_4 := hx365_4
      have hw365_3 := hx365_3
      have hw365_2 := hx365_2
      have hw365_1 := hx365_1
      have hw365_0 := hx365_0
      cases e365
      replace hx365_0 := (HB.out.cell (World.block_lt_of_cell? w _ hx365_0)).trans hx365_0
      replace hx365_1 := (HB.out.cell (World.block_lt_of_cell? w _ hx365_1)).trans hx365_1
      replace hx365_2 := (HB.out.cell (World.block_lt_of_cell? w _ hx365_2)).trans hx365_2
      replace hx365_3 := (HB.out.cell (World.block_lt_of_cell? w _ hx365_3)).trans hx365_3
      replace hx365_4 := (HB.out.cell (World.block_lt_of_cell? w _ hx365_4)).trans hx365_4
      replace p365 := eq_true p365
      replace q365 := eq_true q365
      refine start_ (n := 11) (S := fun w' => w'.cell? (ad365.add ((x4_1).toNat * 5)) = some (.int .i64 ((rd_T66 l0 x4_1).f0)) ∧ w'.cell? ⟨(ad365.add ((x4_1).toNat * 5)).block, (ad365.add ((x4_1).toNat * 5)).off + 1, none⟩ = some (.int .i64 ((rd_T66 l0 x4_1).f1)) ∧ w'.cell? ⟨(ad365.add ((x4_1).toNat * 5)).block, (ad365.add ((x4_1).toNat * 5)).off + 2, none⟩ = some (.int .i64 ((rd_T66 l0 x4_1).f2)) ∧ w'.cell? ⟨(ad365.add ((x4_1).toNat * 5)).block, (ad365.add ((x4_1).toNat * 5)).off + 3, none⟩ = some (.int .i64 ((rd_T66 l0 x4_1).f3)) ∧ w'.cell? ⟨(ad365.add ((x4_1).toNat * 5)).block, (ad365.add ((x4_1).toNat * 5)).off + 4, none⟩ = some (.int .i64 ((rd_T66 l0 x4_1).f4))) (ds := []) (bm 11 0) (by kernel_rfl) rfl rfl ⟨((HB.out.cell (World.block_lt_of_cell? w _ hw365_0)).trans hw365_0), ((HB.out.cell (World.block_lt_of_cell? w _ hw365_1)).trans hw365_1), ((HB.out.cell (World.block_lt_of_cell? w _ hw365_2)).trans hw365_2), ((HB.out.cell (World.block_lt_of_cell? w _ hw365_3)).trans hw365_3), ((HB.out.cell (World.block_lt_of_cell? w _ hw365_4)).trans hw365_4)⟩ (fun hHeld => ?_); refine with_tabW dialtoneref22_Made.tab5 dialtoneref22_Made.bits5 (fun HT_ HW_ => ?_)
      generalize wc.drew = w12 at HO_3 HB hx365_0 hx365_1 hx365_2 hx365_3 hx365_4 hHeld ⊢
      refine pz 1 (some 17) (bm 11 2) HT_ ?_
      refine pz 3 (some 19) (bm 11 10) HT_ ?_
      refine pz 4 (some 20) (bm 11 26) HT_ ?_
      refine pz 5 (some 21) (bm 11 58) HT_ ?_
      refine tz 6 (some 22) (bm 11 122) HT_ HW_ hHeld ?_
      refine one_ (i := 0) (N := some 16) (bm 11 123) rfl rfl (one_of HT_.out (by kernel_rfl)) (by decide) (fun K hK => ?_)
      refine Kd.R_lit_step k41 _ 41 ?hg (N := 16) ?hd (xs := ([] : List (S41))) (inner := []) (ok := fun _ => True) (okp := fun _ => True) ?hr ?hp (fun _ hk => hk) trivial (Below.refl _ _) (Nat.le_refl _) (by simp) ?_; (case hd => rfl); (case hg => rfl); (case hr => exact zq4); (case hp => exact (Reps.none _ _))
      intro v360 w13 ho14 hb hg_ hnew_
      clear hg_ hnew_
      (first | rw [← Ny359.out] at ho14 | (simp only [Int.reduceToNat] at ho14; rw [← Ny359.out] at ho14))
      have HO361 := Aside0.mk (Kd.R_lower (Kd.R_new' ho14 (Kd.R_lt (zR HO_3))) (below_size (zW HB)))
      replace HO_3 := Aside0.mk (Kd.R_elder' (zR HO_3) (Kd.R_base ho14) hb)
      replace HB := Aside0.mk (below_step (zW HB) hb)
      clear hb ho14
      obtain ⟨Ao16, co16, eo16⟩ := Kd.R_slice HO_3.out
      (first | subst eo16 | (injection eo16 with f1_ f2_ f3_; have f4_ := f1_.symm; have f5_ := f3_.symm; clear f1_ f2_ f3_; subst f4_; subst f5_))
      refine hK.out _ _ ⟨((HB.out.cell (World.block_lt_of_cell? w _ hw365_0)).trans hw365_0), ((HB.out.cell (World.block_lt_of_cell? w _ hw365_1)).trans hw365_1), ((HB.out.cell (World.block_lt_of_cell? w _ hw365_2)).trans hw365_2), ((HB.out.cell (World.block_lt_of_cell? w _ hw365_3)).trans hw365_3), ((HB.out.cell (World.block_lt_of_cell? w _ hw365_4)).trans hw365_4)⟩ (fun hHeld => ?_)
      clear hK K
      refine nz (some 16) ?_
      refine one_ (i := 2) (N := some 18) (bm 11 127) rfl rfl (one_of HT_.out (by kernel_rfl)) (by decide) (fun K hK => ?_)
      refine Kd.R_append_rows_step k41 (w0 := w) w.heap.size (by rfl) (.tmp 16) (.tmp 17) 24 41 (.agg #[(.int .i64 0), (.int .i64 0), (.int .i64 0), (.int .i64 0), (.int .i64 0)]) 40 rfl Tryz.underlying24 info41 rfl (by decide) (by omega) v360 y359 x3_1 _ _ _ (fun k_ => some k_ ≠ (.slice Ao16 x3_1.length co16 : Value).ownBlock) (fun _ => False) rfl rfl ?aO ?aR (fun _ _ h => h) (fun _ h => h.elim) ?aF ?aB ?aS ?aL ?_
      (case aR => exact zC (Kd.R_reads' HO_3.out).2.2)
      (case aB => exact (zW HB))
      (case aF => exact zq84)
      (case aO => exact zq85)
      (case aS => exact zq61)
      (case aL => have := LMc5.out; omega)
      intro v363 w15 ho hb hg hat
      rw [← Ny362.out] at ho
      replace HO_3 := Aside0.mk (Kd.R_after (ok := (fun _ => True)) (zR HO_3) hg hat)
      replace HB := Aside0.mk (hb)
      have HO364 := Aside0.mk (ho)
      clear HO361
      clear ho hb hg hat
      refine hK.out _ _ ⟨((HB.out.cell (World.block_lt_of_cell? w _ hw365_0)).trans hw365_0), ((HB.out.cell (World.block_lt_of_cell? w _ hw365_1)).trans hw365_1), ((HB.out.cell (World.block_lt_of_cell? w _ hw365_2)).trans hw365_2), ((HB.out.cell (World.block_lt_of_cell? w _ hw365_3)).trans hw365_3), ((HB.out.cell (World.block_lt_of_cell? w _ hw365_4)).trans hw365_4)⟩ (fun hHeld => ?_)
      clear hK K
      refine nz (some 18) ?_
      refine one_ (i := 7) (N := some 23) (bm 11 255) rfl rfl (one_of HT_.out (by kernel_rfl)) (by decide) (fun K hK => ?_)
      refine goes_ Tryz.func26 (by kernel_rfl) rfl #[.agg #[.int .i64 ((rd_T66 l0 x4_1).f0), .int .i64 ((rd_T66 l0 x4_1).f1), .int .i64 ((rd_T66 l0 x4_1).f2), .int .i64 ((rd_T66 l0 x4_1).f3), .int .i64 ((rd_T66 l0 x4_1).f4)]] (by rfl) rfl rfl zG ?_
      with_reducible refine (dialtoneref22_One.calls ((rd_T66 l0 x4_1).f0) ((rd_T66 l0 x4_1).f1) ((rd_T66 l0 x4_1).f2) ((rd_T66 l0 x4_1).f3) ((rd_T66 l0 x4_1).f4) t366 t367 t368 t369 t370 _ A8.out).mono ?_
      rintro e w17 ⟨rfl, hb⟩
      refine ⟨_, rfl, ?_⟩
      replace HO_3 := Aside0.mk (Kd.R_below (zR HO_3) hb)
      replace HO364 := Aside0.mk (Kd.R_below (zR HO364) hb)
      replace HB := Aside0.mk (below_step (zW HB) hb)
      (try clear hb)
      (try clear hb2)
      (try clear hk)
      (try clear hi)
      refine hK.out _ _ ⟨((HB.out.cell (World.block_lt_of_cell? w _ hw365_0)).trans hw365_0), ((HB.out.cell (World.block_lt_of_cell? w _ hw365_1)).trans hw365_1), ((HB.out.cell (World.block_lt_of_cell? w _ hw365_2)).trans hw365_2), ((HB.out.cell (World.block_lt_of_cell? w _ hw365_3)).trans hw365_3), ((HB.out.cell (World.block_lt_of_cell? w _ hw365_4)).trans hw365_4)⟩ (fun hHeld => ?_)
      clear hK K
      refine nz (some 23) ?_
      refine one_ (i := 8) (N := some 24) (bm 11 511) rfl rfl (one_of HT_.out (by kernel_rfl)) (by decide) (fun K hK => ?_)
      refine value_ (w1 := ?_) (v := ?_) (by rfl) rfl ?_ ?_
      rotate_left 2
      ·go_simp
       constructor
       ·rfl
       ·rfl
      refine hK.out _ _ ⟨(World.cell?_alloc_lt _ _ _ (World.block_lt_of_cell? _ _ (((HB.out.cell (World.block_lt_of_cell? w _ hw365_0)).trans hw365_0)))).trans (((HB.out.cell (World.block_lt_of_cell? w _ hw365_0)).trans hw365_0)), (World.cell?_alloc_lt _ _ _ (World.block_lt_of_cell? _ _ (((HB.out.cell (World.block_lt_of_cell? w _ hw365_1)).trans hw365_1)))).trans (((HB.out.cell (World.block_lt_of_cell? w _ hw365_1)).trans hw365_1)), (World.cell?_alloc_lt _ _ _ (World.block_lt_of_cell? _ _ (((HB.out.cell (World.block_lt_of_cell? w _ hw365_2)).trans hw365_2)))).trans (((HB.out.cell (World.block_lt_of_cell? w _ hw365_2)).trans hw365_2)), (World.cell?_alloc_lt _ _ _ (World.block_lt_of_cell? _ _ (((HB.out.cell (World.block_lt_of_cell? w _ hw365_3)).trans hw365_3)))).trans (((HB.out.cell (World.block_lt_of_cell? w _ hw365_3)).trans hw365_3)), (World.cell?_alloc_lt _ _ _ (World.block_lt_of_cell? _ _ (((HB.out.cell (World.block_lt_of_cell? w _ hw365_4)).trans hw365_4)))).trans (((HB.out.cell (World.block_lt_of_cell? w _ hw365_4)).trans hw365_4))⟩ (fun hHeld => ?_)
      clear hK K
      refine nz (some 24) ?_
      refine one_ (i := 9) (N := some 25) (bm 11 1023) rfl rfl (one_of HT_.out (by kernel_rfl)) (by decide) (fun K hK => ?_)
      refine Kd.R_append_step k41 (w0 := w) w.heap.size (by rfl) (.tmp 18) (.tmp 24) 24 41 (.agg #[(.int .i64 0), (.int .i64 0), (.int .i64 0), (.int .i64 0), (.int .i64 0)]) 40 rfl Tryz.underlying24 info41 rfl (by decide) (by omega) v363 y362 (⟨t366, t367, t368, (⟨t369, t370⟩ : S39)⟩ : S41) [.int .i64 t366, .int .i64 t367, .int .i64 t368, .int .i64 t369, .int .i64 t370] (fun k_ => some k_ ≠ (.slice Ao16 x3_1.length co16 : Value).ownBlock) (fun _ => False) rfl rfl ?aP (fun _ hk => hk.elim) ?aF ?aO ?aB ?aS ?aL ?_
      (case aP => exact zq87)
      (case aB => exact (zW HB))
      (case aF => exact zq84)
      (case aO => exact (zR HO364))
      (case aS => exact zq61)
      (case aL => have := LMc9.out; omega)
      intro v372 w18 ho hb hg hat
      rw [← Ny371.out] at ho
      replace HO_3 := Aside0.mk (Kd.R_after (ok := (fun _ => True)) (zR HO_3) hg hat)
      replace HB := Aside0.mk (hb)
      have HO373 := Aside0.mk (ho)
      clear HO364
      clear ho hb hg hat
      refine hK.out _ _ ⟨((HB.out.cell (World.block_lt_of_cell? w _ hw365_0)).trans hw365_0), ((HB.out.cell (World.block_lt_of_cell? w _ hw365_1)).trans hw365_1), ((HB.out.cell (World.block_lt_of_cell? w _ hw365_2)).trans hw365_2), ((HB.out.cell (World.block_lt_of_cell? w _ hw365_3)).trans hw365_3), ((HB.out.cell (World.block_lt_of_cell? w _ hw365_4)).trans hw365_4)⟩ (fun hHeld => ?_)
      clear hK K
      refine nz (some 25) ?_
      refine pz 10 (some 5) (bm 11 2047) HT_ ?_
      refine done_ (done_of HT_.out (by kernel_rfl)) ?_
      obtain ⟨Ao19, co19, eo19⟩ := Kd.R_slice HO373.out
      subst eo19
      try go_wp2_with (first | ((with_reducible refine gate_callee (f := 27) rfl ?_); refine goesL_ (some 27) rfl rfl Tryz.func27 (by kernel_rfl) rfl #[.slice Ao19 y371.length co19] rfl zG ?_; (with_reducible refine (dialtoneref22_Settings.calls kj1 _ _ y371 true _ ?side1 ?side2 A10.out).mono ?_); (case side1 => exact zC (Kd.R_reads' HO373.out).2.2); (case side2 => exact (Kd.R_reads' HO373.out).2.1); rintro e w20 ⟨rfl, hb⟩; refine ⟨_, rfl, ?_⟩; replace HO_3 := Aside0.mk (Kd.R_below (zR HO_3) hb); replace HO373 := Aside0.mk (Kd.R_below (zR HO373) hb); replace HB := Aside0.mk (below_step (zW HB) hb); (try clear hb); (try clear hb2); (try clear hk); (try clear hi)))
      go_roundg kj1
      case measure => have := HK1.out; have := HJ1.out; omega
      case rel => exact ⟨(y371), (wrap64 (x4_1 + 1)), (zq2), H', ⟨by have := HK1.out; have := HJ1.out; omega⟩, ⟨by (with_reducible repeat (first | apply Kd.R_alloc | apply Kd.R_drewN | apply Kd.R_drew)); exact Kd.R_mono HO373.out (fun _ hk => trivial)⟩, ⟨zq18⟩⟩
     replace c11 := Bool.eq_false_iff.mpr c11
     subst c11
     rw [if_neg (show ¬ (false = true) by decide)] at H
     have H' := Aside0.mk H
     clear H
     try go_wp2
     replace HO_3 := Aside0.mk (Kd.R_drew HO_3.out)
     replace HB := Aside0.mk (below_drew1 HB.out)
     have p365 : 0 ≤ (x4_1 : Int) := of_decide_eq_true (zq9)
     have q365 : x4_1 < (l0.length : Int) := of_decide_eq_true (zq9)
     obtain ⟨ad365, e365, hx365_0, hx365_1, hx365_2, hx365_3, hx365_4⟩ := at_T66 HR0.out x4_1 p365 q365
     have hw365_4 := hx365_4
     have hw365_3 := hx365_3
     have hw365_2 := hx365_2
     have hw365_1 := hx365_1
     have hw365_0 := hx365_0
     cases e365
     replace hx365_0 := (HB.out.cell (World.block_lt_of_cell? w _ hx365_0)).trans hx365_0
     replace hx365_1 := (HB.out.cell (World.block_lt_of_cell? w _ hx365_1)).trans hx365_1
     replace hx365_2 := (HB.out.cell (World.block_lt_of_cell? w _ hx365_2)).trans hx365_2
     replace hx365_3 := (HB.out.cell (World.block_lt_of_cell? w _ hx365_3)).trans hx365_3
     replace hx365_4 := (HB.out.cell (World.block_lt_of_cell? w _ hx365_4)).trans hx365_4
     replace p365 := eq_true p365
     replace q365 := eq_true q365
     refine start_ (n := 11) (S := fun w' => w'.cell? (ad365.add ((x4_1).toNat * 5)) = some (.int .i64 ((rd_T66 l0 x4_1).f0)) ∧ w'.cell? ⟨(ad365.add ((x4_1).toNat * 5)).block, (ad365.add ((x4_1).toNat * 5)).off + 1, none⟩ = some (.int .i64 ((rd_T66 l0 x4_1).f1)) ∧ w'.cell? ⟨(ad365.add ((x4_1).toNat * 5)).block, (ad365.add ((x4_1).toNat * 5)).off + 2, none⟩ = some (.int .i64 ((rd_T66 l0 x4_1).f2)) ∧ w'.cell? ⟨(ad365.add ((x4_1).toNat * 5)).block, (ad365.add ((x4_1).toNat * 5)).off + 3, none⟩ = some (.int .i64 ((rd_T66 l0 x4_1).f3)) ∧ w'.cell? ⟨(ad365.add ((x4_1).toNat * 5)).block, (ad365.add ((x4_1).toNat * 5)).off + 4, none⟩ = some (.int .i64 ((rd_T66 l0 x4_1).f4))) (ds := []) (bm 11 0) (by kernel_rfl) rfl rfl ⟨((HB.out.cell (World.block_lt_of_cell? w _ hw365_0)).trans hw365_0), ((HB.out.cell (World.block_lt_of_cell? w _ hw365_1)).trans hw365_1), ((HB.out.cell (World.block_lt_of_cell? w _ hw365_2)).trans hw365_2), ((HB.out.cell (World.block_lt_of_cell? w _ hw365_3)).trans hw365_3), ((HB.out.cell (World.block_lt_of_cell? w _ hw365_4)).trans hw365_4)⟩ (fun hHeld => ?_); refine with_tabW dialtoneref22_Made.tab5 dialtoneref22_Made.bits5 (fun HT_ HW_ => ?_)
     generalize wc.drew = w21 at HO_3 HB hx365_0 hx365_1 hx365_2 hx365_3 hx365_4 hHeld ⊢
     refine pz 1 (some 17) (bm 11 2) HT_ ?_
     refine pz 3 (some 19) (bm 11 10) HT_ ?_
     refine pz 4 (some 20) (bm 11 26) HT_ ?_
     refine pz 5 (some 21) (bm 11 58) HT_ ?_
     refine tz 6 (some 22) (bm 11 122) HT_ HW_ hHeld ?_
     refine one_ (i := 0) (N := some 16) (bm 11 123) rfl rfl (one_of HT_.out (by kernel_rfl)) (by decide) (fun K hK => ?_)
     refine Kd.R_lit_step k41 _ 41 ?hg (N := 16) ?hd (xs := ([] : List (S41))) (inner := []) (ok := fun _ => True) (okp := fun _ => True) ?hr ?hp (fun _ hk => hk) trivial (Below.refl _ _) (Nat.le_refl _) (by simp) ?_; (case hd => rfl); (case hg => rfl); (case hr => exact zq4); (case hp => exact (Reps.none _ _))
     intro v360 w22 ho23 hb hg_ hnew_
     clear hg_ hnew_
     (first | rw [← Ny359.out] at ho23 | (simp only [Int.reduceToNat] at ho23; rw [← Ny359.out] at ho23))
     have HO361 := Aside0.mk (Kd.R_lower (Kd.R_new' ho23 (Kd.R_lt (zR HO_3))) (below_size (zW HB)))
     replace HO_3 := Aside0.mk (Kd.R_elder' (zR HO_3) (Kd.R_base ho23) hb)
     replace HB := Aside0.mk (below_step (zW HB) hb)
     clear hb ho23
     obtain ⟨Ao25, co25, eo25⟩ := Kd.R_slice HO_3.out
     (first | subst eo25 | (injection eo25 with f1_ f2_ f3_; have f4_ := f1_.symm; have f5_ := f3_.symm; clear f1_ f2_ f3_; subst f4_; subst f5_))
     refine hK.out _ _ ⟨((HB.out.cell (World.block_lt_of_cell? w _ hw365_0)).trans hw365_0), ((HB.out.cell (World.block_lt_of_cell? w _ hw365_1)).trans hw365_1), ((HB.out.cell (World.block_lt_of_cell? w _ hw365_2)).trans hw365_2), ((HB.out.cell (World.block_lt_of_cell? w _ hw365_3)).trans hw365_3), ((HB.out.cell (World.block_lt_of_cell? w _ hw365_4)).trans hw365_4)⟩ (fun hHeld => ?_)
     clear hK K
     refine nz (some 16) ?_
     refine one_ (i := 2) (N := some 18) (bm 11 127) rfl rfl (one_of HT_.out (by kernel_rfl)) (by decide) (fun K hK => ?_)
     refine Kd.R_append_rows_step k41 (w0 := w) w.heap.size (by rfl) (.tmp 16) (.tmp 17) 24 41 (.agg #[(.int .i64 0), (.int .i64 0), (.int .i64 0), (.int .i64 0), (.int .i64 0)]) 40 rfl Tryz.underlying24 info41 rfl (by decide) (by omega) v360 y359 x3_1 _ _ _ (fun k_ => some k_ ≠ (.slice Ao25 x3_1.length co25 : Value).ownBlock) (fun _ => False) rfl rfl ?aO ?aR (fun _ _ h => h) (fun _ h => h.elim) ?aF ?aB ?aS ?aL ?_
     (case aR => exact zC (Kd.R_reads' HO_3.out).2.2)
     (case aB => exact (zW HB))
     (case aF => exact zq84)
     (case aO => exact zq85)
     (case aS => exact zq61)
     (case aL => have := LMc5.out; omega)
     intro v363 w24 ho hb hg hat
     rw [← Ny362.out] at ho
     replace HO_3 := Aside0.mk (Kd.R_after (ok := (fun _ => True)) (zR HO_3) hg hat)
     replace HB := Aside0.mk (hb)
     have HO364 := Aside0.mk (ho)
     clear HO361
     clear ho hb hg hat
     refine hK.out _ _ ⟨((HB.out.cell (World.block_lt_of_cell? w _ hw365_0)).trans hw365_0), ((HB.out.cell (World.block_lt_of_cell? w _ hw365_1)).trans hw365_1), ((HB.out.cell (World.block_lt_of_cell? w _ hw365_2)).trans hw365_2), ((HB.out.cell (World.block_lt_of_cell? w _ hw365_3)).trans hw365_3), ((HB.out.cell (World.block_lt_of_cell? w _ hw365_4)).trans hw365_4)⟩ (fun hHeld => ?_)
     clear hK K
     refine nz (some 18) ?_
     refine one_ (i := 7) (N := some 23) (bm 11 255) rfl rfl (one_of HT_.out (by kernel_rfl)) (by decide) (fun K hK => ?_)
     refine goes_ Tryz.func26 (by kernel_rfl) rfl #[.agg #[.int .i64 ((rd_T66 l0 x4_1).f0), .int .i64 ((rd_T66 l0 x4_1).f1), .int .i64 ((rd_T66 l0 x4_1).f2), .int .i64 ((rd_T66 l0 x4_1).f3), .int .i64 ((rd_T66 l0 x4_1).f4)]] (by rfl) rfl rfl zG ?_
     with_reducible refine (dialtoneref22_One.calls ((rd_T66 l0 x4_1).f0) ((rd_T66 l0 x4_1).f1) ((rd_T66 l0 x4_1).f2) ((rd_T66 l0 x4_1).f3) ((rd_T66 l0 x4_1).f4) t366 t367 t368 t369 t370 _ A8.out).mono ?_
     rintro e w26 ⟨rfl, hb⟩
     refine ⟨_, rfl, ?_⟩
     replace HO_3 := Aside0.mk (Kd.R_below (zR HO_3) hb)
     replace HO364 := Aside0.mk (Kd.R_below (zR HO364) hb)
     replace HB := Aside0.mk (below_step (zW HB) hb)
     (try clear hb)
     (try clear hb2)
     (try clear hk)
     (try clear hi)
     refine hK.out _ _ ⟨((HB.out.cell (World.block_lt_of_cell? w _ hw365_0)).trans hw365_0), ((HB.out.cell (World.block_lt_of_cell? w _ hw365_1)).trans hw365_1), ((HB.out.cell (World.block_lt_of_cell? w _ hw365_2)).trans hw365_2), ((HB.out.cell (World.block_lt_of_cell? w _ hw365_3)).trans hw365_3), ((HB.out.cell (World.block_lt_of_cell? w _ hw365_4)).trans hw365_4)⟩ (fun hHeld => ?_)
     clear hK K
     refine nz (some 23) ?_
     refine one_ (i := 8) (N := some 24) (bm 11 511) rfl rfl (one_of HT_.out (by kernel_rfl)) (by decide) (fun K hK => ?_)
     refine value_ (w1 := ?_) (v := ?_) (by rfl) rfl ?_ ?_
     rotate_left 2
     ·go_simp
      constructor
      ·rfl
      ·rfl
     refine hK.out _ _ ⟨(World.cell?_alloc_lt _ _ _ (World.block_lt_of_cell? _ _ (((HB.out.cell (World.block_lt_of_cell? w _ hw365_0)).trans hw365_0)))).trans (((HB.out.cell (World.block_lt_of_cell? w _ hw365_0)).trans hw365_0)), (World.cell?_alloc_lt _ _ _ (World.block_lt_of_cell? _ _ (((HB.out.cell (World.block_lt_of_cell? w _ hw365_1)).trans hw365_1)))).trans (((HB.out.cell (World.block_lt_of_cell? w _ hw365_1)).trans hw365_1)), (World.cell?_alloc_lt _ _ _ (World.block_lt_of_cell? _ _ (((HB.out.cell (World.block_lt_of_cell? w _ hw365_2)).trans hw365_2)))).trans (((HB.out.cell (World.block_lt_of_cell? w _ hw365_2)).trans hw365_2)), (World.cell?_alloc_lt _ _ _ (World.block_lt_of_cell? _ _ (((HB.out.cell (World.block_lt_of_cell? w _ hw365_3)).trans hw365_3)))).trans (((HB.out.cell (World.block_lt_of_cell? w _ hw365_3)).trans hw365_3)), (World.cell?_alloc_lt _ _ _ (World.block_lt_of_cell? _ _ (((HB.out.cell (World.block_lt_of_cell? w _ hw365_4)).trans hw365_4)))).trans (((HB.out.cell (World.block_lt_of_cell? w _ hw365_4)).trans hw365_4))⟩ (fun hHeld => ?_)
     clear hK K
     refine nz (some 24) ?_
     refine one_ (i := 9) (N := some 25) (bm 11 1023) rfl rfl (one_of HT_.out (by kernel_rfl)) (by decide) (fun K hK => ?_)
     refine Kd.R_append_step k41 (w0 := w) w.heap.size (by rfl) (.tmp 18) (.tmp 24) 24 41 (.agg #[(.int .i64 0), (.int .i64 0), (.int .i64 0), (.int .i64 0), (.int .i64 0)]) 40 rfl Tryz.underlying24 info41 rfl (by decide) (by omega) v363 y362 (⟨t366, t367, t368, (⟨t369, t370⟩ : S39)⟩ : S41) [.int .i64 t366, .int .i64 t367, .int .i64 t368, .int .i64 t369, .int .i64 t370] (fun k_ => some k_ ≠ (.slice Ao25 x3_1.length co25 : Value).ownBlock) (fun _ => False) rfl rfl ?aP (fun _ hk => hk.elim) ?aF ?aO ?aB ?aS ?aL ?_
     (case aP => exact zq87)
     (case aB => exact (zW HB))
     (case aF => exact zq84)
     (case aO => exact (zR HO364))
     (case aS => exact zq61)
     (case aL => have := LMc9.out; omega)
     intro v372 w27 ho hb hg hat
     rw [← Ny371.out] at ho
     replace HO_3 := Aside0.mk (Kd.R_after (ok := (fun _ => True)) (zR HO_3) hg hat)
     replace HB := Aside0.mk (hb)
     have HO373 := Aside0.mk (ho)
     clear HO364
     clear ho hb hg hat
     refine hK.out _ _ ⟨((HB.out.cell (World.block_lt_of_cell? w _ hw365_0)).trans hw365_0), ((HB.out.cell (World.block_lt_of_cell? w _ hw365_1)).trans hw365_1), ((HB.out.cell (World.block_lt_of_cell? w _ hw365_2)).trans hw365_2), ((HB.out.cell (World.block_lt_of_cell? w _ hw365_3)).trans hw365_3), ((HB.out.cell (World.block_lt_of_cell? w _ hw365_4)).trans hw365_4)⟩ (fun hHeld => ?_)
     clear hK K
     refine nz (some 25) ?_
     refine pz 10 (some 5) (bm 11 2047) HT_ ?_
     refine done_ (done_of HT_.out (by kernel_rfl)) ?_
     obtain ⟨Ao28, co28, eo28⟩ := Kd.R_slice HO373.out
     subst eo28
     try go_wp2_with (first | ((with_reducible refine gate_callee (f := 27) rfl ?_); refine goesL_ (some 27) rfl rfl Tryz.func27 (by kernel_rfl) rfl #[.slice Ao28 y371.length co28] rfl zG ?_; (with_reducible refine (dialtoneref22_Settings.calls kj1 _ _ y371 false _ ?side1 ?side2 A10.out).mono ?_); (case side1 => exact zC (Kd.R_reads' HO373.out).2.2); (case side2 => exact (Kd.R_reads' HO373.out).2.1); rintro e w29 ⟨rfl, hb⟩; refine ⟨_, rfl, ?_⟩; replace HO_3 := Aside0.mk (Kd.R_below (zR HO_3) hb); replace HO373 := Aside0.mk (Kd.R_below (zR HO373) hb); replace HB := Aside0.mk (below_step (zW HB) hb); (try clear hb); (try clear hb2); (try clear hk); (try clear hi)))
     go_roundg kj1
     case measure => have := HK1.out; have := HJ1.out; omega
     case rel => exact ⟨(x3_1), (wrap64 (x4_1 + 1)), (zq2), H', ⟨by have := HK1.out; have := HJ1.out; omega⟩, ⟨by (with_reducible repeat (first | apply Kd.R_alloc | apply Kd.R_drewN | apply Kd.R_drew)); exact Kd.R_mono HO_3.out (fun _ hk => trivial)⟩, ⟨zq18⟩⟩
def dialtoneref22_Conditions.l0 : Nat → List (S37) → Int → Int → Option ((List (S37)))
 | 0, _, _, _ => none
 | k + 1, x3, x4, x5 => if x5 < 8 then (if 0 ≤ (wrap64 (2 * x5)) then (if (Int.tmod (shr .i64 x4 (wrap64 (2 * x5))) 4) > 0 then (if x3.length < 8796093022208 then (dialtoneref22_Conditions.l0 k (x3 ++ [(⟨wrap64 (10 + x5), wrap64 (1 + (Int.tmod (shr .i64 x4 (wrap64 (2 * x5))) 4))⟩ : S37)]) x4 (wrap64 (x5 + 1))) else (none)) else (dialtoneref22_Conditions.l0 k x3 x4 (wrap64 (x5 + 1)))) else (none)) else (some x3)
def dialtoneref22_Conditions.f (k : Nat) (a0 : Int) : Option ((List (S37))) := (dialtoneref22_pick.f a0 65536).bind fun t375 => (dialtoneref22_Conditions.l0 k ([] : List (S37)) t375 0)
theorem dialtoneref22_Conditions.mono_l : ∀ k, (∀ y0 y1 y2, LeO (dialtoneref22_Conditions.l0 k y0 y1 y2) (dialtoneref22_Conditions.l0 (k + 1) y0 y1 y2))
 | 0 => fun _ _ _ r h => by simp [dialtoneref22_Conditions.l0] at h
 | k + 1 => by
  have ih0 := dialtoneref22_Conditions.mono_l k
  ·intro y0 y1 y2
   unfold dialtoneref22_Conditions.l0
   repeat' first
   | (with_reducible exact ih0 _ _ _)
   | (with_reducible exact LeO.refl _)
   | (with_reducible exact LeO.none _)
   | (with_reducible refine LeO.ite ?_ ?_)
   | (with_reducible refine LeO.bind ?_ (fun _ => ?_))
   | exact ih0 _ _ _
   | exact LeO.none _
   | refine LeO.ite ?_ ?_
   | refine LeO.bind ?_ (fun _ => ?_)
theorem dialtoneref22_Conditions.mono : ∀ a0 k, LeO (dialtoneref22_Conditions.f k a0) (dialtoneref22_Conditions.f (k + 1) a0) := by
 intro a0 k
 have ih0 := dialtoneref22_Conditions.mono_l k
 unfold dialtoneref22_Conditions.f
 repeat' first
  | (with_reducible exact ih0 _ _ _)
  | (with_reducible exact LeO.refl _)
  | (with_reducible exact LeO.none _)
  | (with_reducible refine LeO.ite ?_ ?_)
  | (with_reducible refine LeO.bind ?_ (fun _ => ?_))
  | exact ih0 _ _ _
  | exact LeO.none _
  | refine LeO.ite ?_ ?_
  | refine LeO.bind ?_ (fun _ => ?_)
set_option maxHeartbeats 8000000 in
set_option maxRecDepth 100000 in
theorem dialtoneref22_Conditions.calls (k : Nat) (a0 : Int) (r : List (S37)) (w : World) (h : dialtoneref22_Conditions.f k a0 = some r) :
 Calls Tryz.prog 9 #[.int .i64 a0] w fun e w' => ∃ v0_ : Value, e = .returned (v0_) ∧ Kd.R k37 37 w' w.heap.size (fun _ => True) v0_ r ∧ Below w.heap.size w w' := by
 have hu37 := Tryz.underlying37
 have HB := Aside0.mk (Below.refl w.heap.size w)
 have H : ((dialtoneref22_pick.f a0 65536).bind fun t375 => (dialtoneref22_Conditions.l0 k ([] : List (S37)) t375 0)) = some r := h
 clear h
 replace H := Option.bind_eq_some_iff.mp H
 obtain ⟨t375, A20, H⟩ := H
 try dsimp only at H
 have A2 := Aside0.mk A20
 clear A20
 have H' := Aside0.mk H
 clear H
 go_enter Tryz.func9, Tryz.ntmps9
 go_wp2_with (first | ((with_reducible refine gate_callee (f := 28) rfl ?_); refine goesL_ (some 7) rfl rfl Tryz.func28 (by kernel_rfl) rfl #[.int .i64 a0, .int .i64 65536] rfl zG ?_; (with_reducible refine (dialtoneref22_pick.calls a0 65536 t375 _ A2.out).mono ?_); rintro e w' ⟨rfl, ⟨nd, rfl⟩⟩; refine ⟨_, rfl, ?_⟩))
 go_loopg [3, 5] k (fun kq v3 v5 w' => ∃ (x3_1 : List (S37)) (x5_1 : Int), v5 = .int .i64 x5_1 ∧ Aside0 (dialtoneref22_Conditions.l0 kq x3_1 t375 x5_1 = some r) ∧ Aside0 (kq ≤ k) ∧ Aside0 (Kd.R k37 37 w' w.heap.size (fun _ => True) v3 x3_1) ∧ Aside0 (Below w.heap.size w w'))
 case atStart => exact ⟨(([] : List (S37))), (0), (zq2), H', ⟨Nat.le_refl _⟩, ⟨zq88⟩, ⟨zq18⟩⟩
 case round =>
  clear H'
  try clear c2
  try clear p2
  obtain ⟨x3_1, x5_1, rfl, HA, HK1, HO_3, HB⟩ := hrel
  cases gk with
  | zero => exact absurd HA.out (by simp [dialtoneref22_Conditions.l0])
  | succ k1 =>
   have H := HA.out
   clear HA
   simp only [dialtoneref22_Conditions.l0] at H
   by_cases c3 : x5_1 < 8
   rotate_left
   ·rw [if_neg c3] at H
    have c3b0 : decide (x5_1 < 8) = false := decide_eq_false c3
    clear c3
    obtain rfl := Option.some.inj H
    go_wp2
    go_ret
    exact ⟨_, zq6, zq89, zq18⟩
   rw [if_pos c3] at H
   have c3b0 : decide (x5_1 < 8) = true := decide_eq_true c3
   clear c3
   obtain ⟨ji4, hji4⟩ : ∃ j_ : Int, (wrap64 (2 * x5_1)) = j_ := ⟨_, rfl⟩
   replace H : (if 0 ≤ (ji4) then (if (Int.tmod (shr .i64 t375 (ji4)) 4) > 0 then (if x3_1.length < 8796093022208 then (dialtoneref22_Conditions.l0 k1 (x3_1 ++ [(⟨wrap64 (10 + x5_1), wrap64 (1 + (Int.tmod (shr .i64 t375 (ji4)) 4))⟩ : S37)]) t375 (wrap64 (x5_1 + 1))) else (none)) else (dialtoneref22_Conditions.l0 k1 x3_1 t375 (wrap64 (x5_1 + 1)))) else (none)) = some r := by first | (rw [hji4] at H; exact H) | (simp only [hji4] at H ⊢; exact H)
   have hji4w : (IntKind.i64.wrap (2 * x5_1)) = ji4 := (i64_w _).trans hji4
   by_cases c5 : 0 ≤ (ji4)
   rotate_left
   ·rw [if_neg c5] at H
    exact absurd H (by simp)
   rw [if_pos c5] at H
   have c5b0 := eq_true c5
   have c5b1 : decide (0 ≤ (ji4)) = true := decide_eq_true c5
   clear c5
   obtain ⟨ji6, hji6⟩ : ∃ j_ : Int, (shr .i64 t375 (ji4)) = j_ := ⟨_, rfl⟩
   replace H : (if (Int.tmod (ji6) 4) > 0 then (if x3_1.length < 8796093022208 then (dialtoneref22_Conditions.l0 k1 (x3_1 ++ [(⟨wrap64 (10 + x5_1), wrap64 (1 + (Int.tmod (ji6) 4))⟩ : S37)]) t375 (wrap64 (x5_1 + 1))) else (none)) else (dialtoneref22_Conditions.l0 k1 x3_1 t375 (wrap64 (x5_1 + 1)))) = some r := by first | (rw [hji6] at H; exact H) | (simp only [hji6] at H ⊢; exact H)
   have hji6_ : (t375 / 2 ^ min (ji4).toNat 64) = ji6 := hji6
   have hji6z : (ji4) ≤ 64 → (t375 / 2 ^ (ji4).toNat) = ji6 := shr_small hji6
   by_cases c7 : (Int.tmod (ji6) 4) > 0
   rotate_left
   ·rw [if_neg c7] at H
    have c7b0 : decide (0 < (Int.tmod (ji6) 4)) = false := decide_eq_false c7
    clear c7
    have H' := Aside0.mk H
    clear H
    go_wp2
    go_roundg k1
    case measure => have := HK1.out; omega
    case rel => exact ⟨(x3_1), (wrap64 (x5_1 + 1)), (zq2), H', ⟨zq10⟩, ⟨zq89⟩, ⟨zq18⟩⟩
   rw [if_pos c7] at H
   have c7b0 : decide (0 < (Int.tmod (ji6) 4)) = true := decide_eq_true c7
   clear c7
   have c8b0 := eq_true (of_decide_eq_true (zq9) : 0 ≤ (ji4))
   by_cases c9 : x3_1.length < 8796093022208
   rotate_left
   ·rw [if_neg c9] at H
    exact absurd H (by simp)
   rw [if_pos c9] at H
   have LMc9 := Aside0.mk c9
   clear c9
   obtain ⟨y376, hy376⟩ : ∃ y_ : List (S37), y_ = (x3_1 ++ [(⟨wrap64 (10 + x5_1), wrap64 (1 + (Int.tmod (ji6) 4))⟩ : S37)]) := ⟨_, rfl⟩
   replace H : (dialtoneref22_Conditions.l0 k1 y376 t375 (wrap64 (x5_1 + 1))) = some r := by first | (rw [hy376]; with_reducible exact H) | (have H2_ := (Option.bind_some _ _).symm.trans H; rw [hy376]; with_reducible exact H2_) | (have H2_ := (Option.bind_some _ _).symm.trans H; with_reducible exact H2_) | with_reducible exact H | (rw [hy376]; exact H) | exact H
   have Ny376 := Aside0.mk hy376
   clear hy376
   have H' := Aside0.mk H
   clear H
   go_wp2_with (first | ((with_reducible refine gate_builtin (b := .append) (xs := #[.tmp 18, .tmp 28]) rfl ?_); at_builtin; refine Kd.R_append k37 (w0 := w) w.heap.size rfl (.tmp 18) (.tmp 28) 26 37 (.agg #[(.int .i64 0), (.int .i64 0)]) 16 rfl Tryz.underlying26 info37 rfl (by decide) (by omega) u3 x3_1 (⟨wrap64 (10 + x5_1), wrap64 (1 + (Int.tmod (ji6) 4))⟩ : S37) [.int .i64 (wrap64 (10 + x5_1)), .int .i64 (wrap64 (1 + (Int.tmod (ji6) 4)))] (fun _ => True) (fun _ => False) rfl rfl ?aP (fun _ hk => hk.elim) ?aF ?aO ?aB ?aS ?aL ?_; (case aP => exact k37_mkM _ _ _ (⟨wrap64 (10 + x5_1), wrap64 (1 + (Int.tmod (ji6) 4))⟩ : S37)); (case aB => exact (zW HB)); (case aF => exact (fun _ _ => trivial)); (case aO => exact (zR HO_3)); (case aS => exact zq61); (case aL => have := LMc9.out; omega); intro v377 w10 ho hb hg hat; rw [← Ny376.out] at ho; replace HB := Aside0.mk (hb); have HO378 := Aside0.mk (ho); clear HO_3; clear ho hb hg hat))
   go_roundg k1
   case measure => have := HK1.out; omega
   case rel => exact ⟨(y376), (wrap64 (x5_1 + 1)), (zq2), H', ⟨zq10⟩, ⟨by (with_reducible repeat (first | apply Kd.R_alloc | apply Kd.R_drewN | apply Kd.R_drew)); exact HO378.out⟩, ⟨zq18⟩⟩
def dialtonelaw22_pick.f (a0 : Int) (a1 : Int) : Option (Int) := if a0 < 0 then (if a1 = 0 then (none) else (some (Int.tmod (wrap64 (-(wrap64 (a0 + 1)))) a1))) else (if a1 = 0 then (none) else (some (Int.tmod a0 a1)))
set_option maxHeartbeats 8000000 in
set_option maxRecDepth 100000 in
theorem dialtonelaw22_pick.calls (a0 : Int) (a1 : Int) (r : Int) (w : World) (h : dialtonelaw22_pick.f a0 a1 = some r) :
 Calls Tryz.prog 10 #[.int .i64 a0, .int .i64 a1] w fun e w' => e = .returned (.int .i64 r) ∧ Drawn0 w w' := by
 have H : (if a0 < 0 then (if a1 = 0 then (none) else (some (Int.tmod (wrap64 (-(wrap64 (a0 + 1)))) a1))) else (if a1 = 0 then (none) else (some (Int.tmod a0 a1)))) = some r := h
 clear h
 by_cases c3 : a0 < 0
 ·rw [if_pos c3] at H
  have c3b0 : decide (a0 < 0) = true := decide_eq_true c3
  clear c3
  by_cases c4 : a1 = 0
  ·rw [if_pos c4] at H
   exact absurd H (by simp)
  rw [if_neg c4] at H
  have c4b0 : (a1 == 0) = false := beq_eq_false_iff_ne.mpr c4
  have c4b1 : (a1 != 0) = true := bne_iff_ne.mpr c4
  obtain rfl := Option.some.inj H
  go_enter Tryz.func10, Tryz.ntmps10
  go_wp2
  go_ret
  exact ⟨zq2, zq3⟩
 rw [if_neg c3] at H
 have c3b0 : decide (a0 < 0) = false := decide_eq_false c3
 clear c3
 by_cases c5 : a1 = 0
 ·rw [if_pos c5] at H
  exact absurd H (by simp)
 rw [if_neg c5] at H
 have c5b0 : (a1 == 0) = false := beq_eq_false_iff_ne.mpr c5
 have c5b1 : (a1 != 0) = true := bne_iff_ne.mpr c5
 obtain rfl := Option.some.inj H
 go_enter Tryz.func10, Tryz.ntmps10
 go_wp2
 go_ret
 exact ⟨zq2, zq3⟩
def dialtonelaw22_has.l0 : Nat → List Int → Int → Int → Option (Bool)
 | 0, _, _, _ => none
 | k + 1, x0, x1, x5 => if x5 < (x0.length : Int) then (if 0 ≤ x5 then (if (rd x0 x5) = x1 then (some true) else (dialtonelaw22_has.l0 k x0 x1 (wrap64 (x5 + 1)))) else (none)) else (some false)
def dialtonelaw22_has.f (k : Nat) (l0 : List Int) (a1 : Int) : Option (Bool) := dialtonelaw22_has.l0 k l0 a1 0
theorem dialtonelaw22_has.mono_l : ∀ k, (∀ y0 y1 y2, LeO (dialtonelaw22_has.l0 k y0 y1 y2) (dialtonelaw22_has.l0 (k + 1) y0 y1 y2))
 | 0 => fun _ _ _ r h => by simp [dialtonelaw22_has.l0] at h
 | k + 1 => by
  have ih0 := dialtonelaw22_has.mono_l k
  ·intro y0 y1 y2
   unfold dialtonelaw22_has.l0
   repeat' first
   | (with_reducible exact ih0 _ _ _)
   | (with_reducible exact LeO.refl _)
   | (with_reducible exact LeO.none _)
   | (with_reducible refine LeO.ite ?_ ?_)
   | (with_reducible refine LeO.bind ?_ (fun _ => ?_))
   | exact ih0 _ _ _
   | exact LeO.none _
   | refine LeO.ite ?_ ?_
   | refine LeO.bind ?_ (fun _ => ?_)
theorem dialtonelaw22_has.mono : ∀ a0 a1 k, LeO (dialtonelaw22_has.f k a0 a1) (dialtonelaw22_has.f (k + 1) a0 a1) := by
 intro a0 a1 k
 have ih0 := dialtonelaw22_has.mono_l k
 unfold dialtonelaw22_has.f
 repeat' first
  | (with_reducible exact ih0 _ _ _)
  | (with_reducible exact LeO.refl _)
  | (with_reducible exact LeO.none _)
  | (with_reducible refine LeO.ite ?_ ?_)
  | (with_reducible refine LeO.bind ?_ (fun _ => ?_))
  | exact ih0 _ _ _
  | exact LeO.none _
  | refine LeO.ite ?_ ?_
  | refine LeO.bind ?_ (fun _ => ?_)
set_option maxHeartbeats 8000000 in
set_option maxRecDepth 100000 in
theorem dialtonelaw22_has.calls (k : Nat) (A0 : Option Addr) (c0 : Nat) (l0 : List Int) (a1 : Int) (r : Bool) (w : World) (hr0 : Kd.C (Kd.int .i64) w A0 l0.length l0) (hc0 : l0.length ≤ c0) (h : dialtonelaw22_has.f k l0 a1 = some r) :
 Calls Tryz.prog 13 #[.slice A0 l0.length c0, .int .i64 a1] w fun e w' => e = .returned (.bool r) ∧ Drawn0 w w' := by
 have HR0 := Aside0.mk hr0
 have HC0 := Aside0.mk hc0
 clear hr0 hc0
 have H : (dialtonelaw22_has.l0 k l0 a1 0) = some r := h
 clear h
 have H' := Aside0.mk H
 clear H
 go_enter Tryz.func13, Tryz.ntmps13
 go_wp2
 go_loopg [5] k (fun kq v5 w' => ∃ (x5_1 : Int), v5 = .int .i64 x5_1 ∧ Aside0 (dialtonelaw22_has.l0 kq l0 a1 x5_1 = some r) ∧ Aside0 (kq ≤ k) ∧ Drawn0 w w')
 case atStart => exact ⟨(0), (zq2), H', ⟨Nat.le_refl _⟩, zq3⟩
 case round =>
  clear H'
  try clear c1
  try clear p2
  obtain ⟨x5_1, rfl, HA, HK1, ⟨m1, rfl⟩⟩ := hrel
  cases gk with
  | zero => exact absurd HA.out (by simp [dialtonelaw22_has.l0])
  | succ k1 =>
   have H := HA.out
   clear HA
   simp only [dialtonelaw22_has.l0] at H
   by_cases c3 : x5_1 < (l0.length : Int)
   rotate_left
   ·rw [if_neg c3] at H
    have c3b0 : decide (x5_1 < (l0.length : Int)) = false := decide_eq_false c3
    clear c3
    obtain rfl := Option.some.inj H
    go_wp2
    go_ret
    exact ⟨zq2, zq3⟩
   rw [if_pos c3] at H
   have c3b0 : decide (x5_1 < (l0.length : Int)) = true := decide_eq_true c3
   clear c3
   by_cases c4 : 0 ≤ x5_1
   rotate_left
   ·rw [if_neg c4] at H
    exact absurd H (by simp)
   rw [if_pos c4] at H
   have c4b0 : decide (0 ≤ x5_1) = true := decide_eq_true c4
   clear c4
   by_cases c5 : (rd l0 x5_1) = a1
   ·rw [if_pos c5] at H
    have c5b0 : ((rd l0 x5_1) == a1) = true := beq_iff_eq.mpr c5
    have c5b1 : ((rd l0 x5_1) != a1) = false := bne_eq_false_iff_eq.mpr c5
    clear c5
    obtain rfl := Option.some.inj H
    have p379 : 0 ≤ (x5_1 : Int) := of_decide_eq_true (zq9)
    have q379 : x5_1 < (l0.length : Int) := of_decide_eq_true (zq9)
    obtain ⟨ad379, e379, hx379_0⟩ := Kd.at_int HR0.out x5_1 p379 q379
    cases e379
    replace p379 := eq_true p379
    replace q379 := eq_true q379
    go_wp2
    go_ret
    exact ⟨zq2, zq3⟩
   rw [if_neg c5] at H
   have c5b0 : ((rd l0 x5_1) == a1) = false := beq_eq_false_iff_ne.mpr c5
   have c5b1 : ((rd l0 x5_1) != a1) = true := bne_iff_ne.mpr c5
   have H' := Aside0.mk H
   clear H
   have p379 : 0 ≤ (x5_1 : Int) := of_decide_eq_true (zq9)
   have q379 : x5_1 < (l0.length : Int) := of_decide_eq_true (zq9)
   obtain ⟨ad379, e379, hx379_0⟩ := Kd.at_int HR0.out x5_1 p379 q379
   cases e379
   replace p379 := eq_true p379
   replace q379 := eq_true q379
   go_wp2
   go_roundg k1
   case measure => have := HK1.out; omega
   case rel => exact ⟨(wrap64 (x5_1 + 1)), (zq2), H', ⟨zq10⟩, zq3⟩
end Go.Proofs.YtkfejgdeknemaaaGreatDoor.Fw
end
section
open Go.Proofs.YtkfejgdeknemaaaGreatDoor.Z
namespace Go.Proofs.YtkfejgdeknemaaaGreatDoor.Fw
open Go.RowKit Go.Proofs.YtkfejgdeknemaaaGreatDoorW.PrintWords Go.Proofs.YtkfejgdeknemaaaGreatDoorW.PrintLast Go.Proofs.YtkfejgdeknemaaaGreatDoorW.PrintMore
attribute [local go_sem] max2_int min2_int max_two min_two max_three min_three max_four min_four
set_option linter.unusedVariables false
set_option linter.unusedSimpArgs false
def dialtonelaw22_next.l0 : Nat → List (S41) → Int → Int → Int → Option (Int)
 | 0, _, _, _, _ => none
 | k + 1, x0, x1, x2, x7 => if x7 < (x0.length : Int) then (if 0 ≤ x7 then (if ((rd_T41 x0 x7).f0) = x1 then (if ((rd_T41 x0 x7).f1) = 1 then (if ((rd_T41 x0 x7).f3.f0) ≤ x2 then (if x2 < ((rd_T41 x0 x7).f3.f1) then (some ((rd_T41 x0 x7).f2)) else (dialtonelaw22_next.l0 k x0 x1 x2 (wrap64 (x7 + 1)))) else (dialtonelaw22_next.l0 k x0 x1 x2 (wrap64 (x7 + 1)))) else (dialtonelaw22_next.l0 k x0 x1 x2 (wrap64 (x7 + 1)))) else (dialtonelaw22_next.l0 k x0 x1 x2 (wrap64 (x7 + 1)))) else (none)) else (some (-1))
def dialtonelaw22_next.f (k : Nat) (l0 : List (S41)) (a1 : Int) (a2 : Int) : Option (Int) := dialtonelaw22_next.l0 k l0 a1 a2 0
theorem dialtonelaw22_next.mono_l : ∀ k, (∀ y0 y1 y2 y3, LeO (dialtonelaw22_next.l0 k y0 y1 y2 y3) (dialtonelaw22_next.l0 (k + 1) y0 y1 y2 y3))
 | 0 => fun _ _ _ _ r h => by simp [dialtonelaw22_next.l0] at h
 | k + 1 => by
  have ih0 := dialtonelaw22_next.mono_l k
  ·intro y0 y1 y2 y3
   unfold dialtonelaw22_next.l0
   repeat' first
   | (with_reducible exact ih0 _ _ _ _)
   | (with_reducible exact LeO.refl _)
   | (with_reducible exact LeO.none _)
   | (with_reducible refine LeO.ite ?_ ?_)
   | (with_reducible refine LeO.bind ?_ (fun _ => ?_))
   | exact ih0 _ _ _ _
   | exact LeO.none _
   | refine LeO.ite ?_ ?_
   | refine LeO.bind ?_ (fun _ => ?_)
theorem dialtonelaw22_next.mono : ∀ a0 a1 a2 k, LeO (dialtonelaw22_next.f k a0 a1 a2) (dialtonelaw22_next.f (k + 1) a0 a1 a2) := by
 intro a0 a1 a2 k
 have ih0 := dialtonelaw22_next.mono_l k
 unfold dialtonelaw22_next.f
 repeat' first
  | (with_reducible exact ih0 _ _ _ _)
  | (with_reducible exact LeO.refl _)
  | (with_reducible exact LeO.none _)
  | (with_reducible refine LeO.ite ?_ ?_)
  | (with_reducible refine LeO.bind ?_ (fun _ => ?_))
  | exact ih0 _ _ _ _
  | exact LeO.none _
  | refine LeO.ite ?_ ?_
  | refine LeO.bind ?_ (fun _ => ?_)
set_option maxHeartbeats 8000000 in
set_option maxRecDepth 100000 in
theorem dialtonelaw22_next.calls (k : Nat) (A0 : Option Addr) (c0 : Nat) (l0 : List (S41)) (a1 : Int) (a2 : Int) (r : Int) (w : World) (hr0 : Kd.C k41 w A0 l0.length l0) (hc0 : l0.length ≤ c0) (h : dialtonelaw22_next.f k l0 a1 a2 = some r) :
 Calls Tryz.prog 17 #[.slice A0 l0.length c0, .int .i64 a1, .int .i64 a2] w fun e w' => e = .returned (.int .i64 r) ∧ Drawn0 w w' := by
 have HR0 := Aside0.mk hr0
 have HC0 := Aside0.mk hc0
 clear hr0 hc0
 have H : (dialtonelaw22_next.l0 k l0 a1 a2 0) = some r := h
 clear h
 have H' := Aside0.mk H
 clear H
 go_enter Tryz.func17, Tryz.ntmps17
 go_wp2
 go_loopg [7] k (fun kq v7 w' => ∃ (x7_1 : Int), v7 = .int .i64 x7_1 ∧ Aside0 (dialtonelaw22_next.l0 kq l0 a1 a2 x7_1 = some r) ∧ Aside0 (kq ≤ k) ∧ Drawn0 w w')
 case atStart => exact ⟨(0), (zq2), H', ⟨Nat.le_refl _⟩, zq3⟩
 case round =>
  clear H'
  try clear c1
  try clear p2
  obtain ⟨x7_1, rfl, HA, HK1, ⟨m1, rfl⟩⟩ := hrel
  cases gk with
  | zero => exact absurd HA.out (by simp [dialtonelaw22_next.l0])
  | succ k1 =>
   have H := HA.out
   clear HA
   simp only [dialtonelaw22_next.l0] at H
   by_cases c4 : x7_1 < (l0.length : Int)
   rotate_left
   ·rw [if_neg c4] at H
    have c4b0 : decide (x7_1 < (l0.length : Int)) = false := decide_eq_false c4
    clear c4
    obtain rfl := Option.some.inj H
    go_wp2
    go_ret
    exact ⟨zq2, zq3⟩
   rw [if_pos c4] at H
   have c4b0 : decide (x7_1 < (l0.length : Int)) = true := decide_eq_true c4
   clear c4
   by_cases c5 : 0 ≤ x7_1
   rotate_left
   ·rw [if_neg c5] at H
    exact absurd H (by simp)
   rw [if_pos c5] at H
   have c5b0 : decide (0 ≤ x7_1) = true := decide_eq_true c5
   clear c5
   by_cases c6 : ((rd_T41 l0 x7_1).f0) = a1
   rotate_left
   ·rw [if_neg c6] at H
    have c6b0 : (((rd_T41 l0 x7_1).f0) == a1) = false := beq_eq_false_iff_ne.mpr c6
    have c6b1 : (((rd_T41 l0 x7_1).f0) != a1) = true := bne_iff_ne.mpr c6
    have H' := Aside0.mk H
    clear H
    have p523 : 0 ≤ (x7_1 : Int) := of_decide_eq_true (zq9)
    have q523 : x7_1 < (l0.length : Int) := of_decide_eq_true (zq9)
    obtain ⟨ad523, e523, hx523_0, hx523_1, hx523_2, hx523_3, hx523_4⟩ := at_T41 HR0.out x7_1 p523 q523
    cases e523
    replace p523 := eq_true p523
    replace q523 := eq_true q523
    go_wp2
    go_roundg k1
    case measure => have := HK1.out; omega
    case rel => exact ⟨(wrap64 (x7_1 + 1)), (zq2), H', ⟨zq10⟩, zq3⟩
   rw [if_pos c6] at H
   have c6b0 : (((rd_T41 l0 x7_1).f0) == a1) = true := beq_iff_eq.mpr c6
   have c6b1 : (((rd_T41 l0 x7_1).f0) != a1) = false := bne_eq_false_iff_eq.mpr c6
   clear c6
   by_cases c7 : ((rd_T41 l0 x7_1).f1) = 1
   rotate_left
   ·rw [if_neg c7] at H
    have c7b0 : (((rd_T41 l0 x7_1).f1) == 1) = false := beq_eq_false_iff_ne.mpr c7
    have c7b1 : (((rd_T41 l0 x7_1).f1) != 1) = true := bne_iff_ne.mpr c7
    have H' := Aside0.mk H
    clear H
    have p523 : 0 ≤ (x7_1 : Int) := of_decide_eq_true (zq9)
    have q523 : x7_1 < (l0.length : Int) := of_decide_eq_true (zq9)
    obtain ⟨ad523, e523, hx523_0, hx523_1, hx523_2, hx523_3, hx523_4⟩ := at_T41 HR0.out x7_1 p523 q523
    cases e523
    replace p523 := eq_true p523
    replace q523 := eq_true q523
    have p524 : 0 ≤ (x7_1 : Int) := of_decide_eq_true (zq9)
    have q524 : x7_1 < (l0.length : Int) := of_decide_eq_true (zq9)
    obtain ⟨ad524, e524, hx524_0, hx524_1, hx524_2, hx524_3, hx524_4⟩ := at_T41 HR0.out x7_1 p524 q524
    obtain rfl : ad523 = ad524 := (by injection e524)
    replace p524 := eq_true p524
    replace q524 := eq_true q524
    go_wp2
    go_roundg k1
    case measure => have := HK1.out; omega
    case rel => exact ⟨(wrap64 (x7_1 + 1)), (zq2), H', ⟨zq10⟩, zq3⟩
   rw [if_pos c7] at H
   have c7b0 : (((rd_T41 l0 x7_1).f1) == 1) = true := beq_iff_eq.mpr c7
   have c7b1 : (((rd_T41 l0 x7_1).f1) != 1) = false := bne_eq_false_iff_eq.mpr c7
   clear c7
   by_cases c8 : ((rd_T41 l0 x7_1).f3.f0) ≤ a2
   rotate_left
   ·rw [if_neg c8] at H
    have c8b0 : decide (((rd_T41 l0 x7_1).f3.f0) ≤ a2) = false := decide_eq_false c8
    clear c8
    have H' := Aside0.mk H
    clear H
    have p523 : 0 ≤ (x7_1 : Int) := of_decide_eq_true (zq9)
    have q523 : x7_1 < (l0.length : Int) := of_decide_eq_true (zq9)
    obtain ⟨ad523, e523, hx523_0, hx523_1, hx523_2, hx523_3, hx523_4⟩ := at_T41 HR0.out x7_1 p523 q523
    cases e523
    replace p523 := eq_true p523
    replace q523 := eq_true q523
    have p524 : 0 ≤ (x7_1 : Int) := of_decide_eq_true (zq9)
    have q524 : x7_1 < (l0.length : Int) := of_decide_eq_true (zq9)
    obtain ⟨ad524, e524, hx524_0, hx524_1, hx524_2, hx524_3, hx524_4⟩ := at_T41 HR0.out x7_1 p524 q524
    obtain rfl : ad523 = ad524 := (by injection e524)
    replace p524 := eq_true p524
    replace q524 := eq_true q524
    have p525 : 0 ≤ (x7_1 : Int) := of_decide_eq_true (zq9)
    have q525 : x7_1 < (l0.length : Int) := of_decide_eq_true (zq9)
    obtain ⟨ad525, e525, hx525_0, hx525_1, hx525_2, hx525_3, hx525_4⟩ := at_T41 HR0.out x7_1 p525 q525
    obtain rfl : ad523 = ad525 := (by injection e525)
    replace p525 := eq_true p525
    replace q525 := eq_true q525
    go_wp2
    go_roundg k1
    case measure => have := HK1.out; omega
    case rel => exact ⟨(wrap64 (x7_1 + 1)), (zq2), H', ⟨zq10⟩, zq3⟩
   rw [if_pos c8] at H
   have c8b0 : decide (((rd_T41 l0 x7_1).f3.f0) ≤ a2) = true := decide_eq_true c8
   clear c8
   by_cases c9 : a2 < ((rd_T41 l0 x7_1).f3.f1)
   rotate_left
   ·rw [if_neg c9] at H
    have c9b0 : decide (a2 < ((rd_T41 l0 x7_1).f3.f1)) = false := decide_eq_false c9
    clear c9
    have H' := Aside0.mk H
    clear H
    have p523 : 0 ≤ (x7_1 : Int) := of_decide_eq_true (zq9)
    have q523 : x7_1 < (l0.length : Int) := of_decide_eq_true (zq9)
    obtain ⟨ad523, e523, hx523_0, hx523_1, hx523_2, hx523_3, hx523_4⟩ := at_T41 HR0.out x7_1 p523 q523
    cases e523
    replace p523 := eq_true p523
    replace q523 := eq_true q523
    have p524 : 0 ≤ (x7_1 : Int) := of_decide_eq_true (zq9)
    have q524 : x7_1 < (l0.length : Int) := of_decide_eq_true (zq9)
    obtain ⟨ad524, e524, hx524_0, hx524_1, hx524_2, hx524_3, hx524_4⟩ := at_T41 HR0.out x7_1 p524 q524
    obtain rfl : ad523 = ad524 := (by injection e524)
    replace p524 := eq_true p524
    replace q524 := eq_true q524
    have p525 : 0 ≤ (x7_1 : Int) := of_decide_eq_true (zq9)
    have q525 : x7_1 < (l0.length : Int) := of_decide_eq_true (zq9)
    obtain ⟨ad525, e525, hx525_0, hx525_1, hx525_2, hx525_3, hx525_4⟩ := at_T41 HR0.out x7_1 p525 q525
    obtain rfl : ad523 = ad525 := (by injection e525)
    replace p525 := eq_true p525
    replace q525 := eq_true q525
    have p526 : 0 ≤ (x7_1 : Int) := of_decide_eq_true (zq9)
    have q526 : x7_1 < (l0.length : Int) := of_decide_eq_true (zq9)
    obtain ⟨ad526, e526, hx526_0, hx526_1, hx526_2, hx526_3, hx526_4⟩ := at_T41 HR0.out x7_1 p526 q526
    obtain rfl : ad523 = ad526 := (by injection e526)
    replace p526 := eq_true p526
    replace q526 := eq_true q526
    go_wp2
    go_roundg k1
    case measure => have := HK1.out; omega
    case rel => exact ⟨(wrap64 (x7_1 + 1)), (zq2), H', ⟨zq10⟩, zq3⟩
   rw [if_pos c9] at H
   have c9b0 : decide (a2 < ((rd_T41 l0 x7_1).f3.f1)) = true := decide_eq_true c9
   clear c9
   obtain rfl := Option.some.inj H
   have p523 : 0 ≤ (x7_1 : Int) := of_decide_eq_true (zq9)
   have q523 : x7_1 < (l0.length : Int) := of_decide_eq_true (zq9)
   obtain ⟨ad523, e523, hx523_0, hx523_1, hx523_2, hx523_3, hx523_4⟩ := at_T41 HR0.out x7_1 p523 q523
   cases e523
   replace p523 := eq_true p523
   replace q523 := eq_true q523
   have p524 : 0 ≤ (x7_1 : Int) := of_decide_eq_true (zq9)
   have q524 : x7_1 < (l0.length : Int) := of_decide_eq_true (zq9)
   obtain ⟨ad524, e524, hx524_0, hx524_1, hx524_2, hx524_3, hx524_4⟩ := at_T41 HR0.out x7_1 p524 q524
   obtain rfl : ad523 = ad524 := (by injection e524)
   replace p524 := eq_true p524
   replace q524 := eq_true q524
   have p525 : 0 ≤ (x7_1 : Int) := of_decide_eq_true (zq9)
   have q525 : x7_1 < (l0.length : Int) := of_decide_eq_true (zq9)
   obtain ⟨ad525, e525, hx525_0, hx525_1, hx525_2, hx525_3, hx525_4⟩ := at_T41 HR0.out x7_1 p525 q525
   obtain rfl : ad523 = ad525 := (by injection e525)
   replace p525 := eq_true p525
   replace q525 := eq_true q525
   have p526 : 0 ≤ (x7_1 : Int) := of_decide_eq_true (zq9)
   have q526 : x7_1 < (l0.length : Int) := of_decide_eq_true (zq9)
   obtain ⟨ad526, e526, hx526_0, hx526_1, hx526_2, hx526_3, hx526_4⟩ := at_T41 HR0.out x7_1 p526 q526
   obtain rfl : ad523 = ad526 := (by injection e526)
   replace p526 := eq_true p526
   replace q526 := eq_true q526
   have p527 : 0 ≤ (x7_1 : Int) := of_decide_eq_true (zq9)
   have q527 : x7_1 < (l0.length : Int) := of_decide_eq_true (zq9)
   obtain ⟨ad527, e527, hx527_0, hx527_1, hx527_2, hx527_3, hx527_4⟩ := at_T41 HR0.out x7_1 p527 q527
   obtain rfl : ad523 = ad527 := (by injection e527)
   replace p527 := eq_true p527
   replace q527 := eq_true q527
   go_wp2
   go_ret
   exact ⟨zq2, zq3⟩
end Go.Proofs.YtkfejgdeknemaaaGreatDoor.Fw
end
