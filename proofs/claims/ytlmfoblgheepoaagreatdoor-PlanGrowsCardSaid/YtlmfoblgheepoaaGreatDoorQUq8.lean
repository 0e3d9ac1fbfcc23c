/- Uq: part 9 of the proof that the law's row holds: the printed walk of the program's functions, the plain law, the row. -/
import Derived.Test.YtlmfoblgheepoaaGreatDoorQUq7
section
open Go.Proofs.YtlmfoblgheepoaaGreatDoor.Z
namespace Go.Proofs.YtlmfoblgheepoaaGreatDoor.Pl
open Go.RowKit Go.Proofs.YtlmfoblgheepoaaGreatDoorW.PrintWords Go.Proofs.YtlmfoblgheepoaaGreatDoorW.PrintLast Go.Proofs.YtlmfoblgheepoaaGreatDoorW.PrintMore
attribute [local go_sem] max2_int min2_int max_two min_two max_three min_three max_four min_four
set_option linter.unusedVariables false
set_option linter.unusedSimpArgs false
def plan_power.l0 : Nat → Int → Int → Int → Option (Int)
 | 0, _, _, _ => none
 | k + 1, x3, x4, x5 => if x5 < x4 then (plan_power.l0 k (wrap64 (x3 * 10)) x4 (wrap64 (x5 + 1))) else (some x3)
def plan_power.f (k : Nat) (a0 : Int) : Option (Int) := plan_power.l0 k 1 a0 0
theorem plan_power.mono_l : ∀ k, (∀ y0 y1 y2, LeO (plan_power.l0 k y0 y1 y2) (plan_power.l0 (k + 1) y0 y1 y2))
 | 0 => fun _ _ _ r h => by simp [plan_power.l0] at h
 | k + 1 => by
  have ih0 := plan_power.mono_l k
  ·intro y0 y1 y2
   unfold plan_power.l0
   repeat' first
   | (with_reducible exact ih0 _ _ _)
   | (with_reducible exact LeO.refl _)
   | (with_reducible exact LeO.none _)
   | (with_reducible refine LeO.ite ?_ ?_)
   | (with_reducible refine LeO.bind ?_ (fun _ => ?_))
   | exact ih0 _ _ _
   | exact LeO.none _
   | refine LeO.ite ?_ ?_
   | refine LeO.bind ?_ (fun _ => ?_)
theorem plan_power.mono : ∀ a0 k, LeO (plan_power.f k a0) (plan_power.f (k + 1) a0) := by
 intro a0 k
 have ih0 := plan_power.mono_l k
 unfold plan_power.f
 repeat' first
  | (with_reducible exact ih0 _ _ _)
  | (with_reducible exact LeO.refl _)
  | (with_reducible exact LeO.none _)
  | (with_reducible refine LeO.ite ?_ ?_)
  | (with_reducible refine LeO.bind ?_ (fun _ => ?_))
  | exact ih0 _ _ _
  | exact LeO.none _
  | refine LeO.ite ?_ ?_
  | refine LeO.bind ?_ (fun _ => ?_)
set_option maxHeartbeats 8000000 in
set_option maxRecDepth 100000 in
theorem plan_power.calls (k : Nat) (a0 : Int) (r : Int) (w : World) (h : plan_power.f k a0 = some r) :
 Calls Tryz.prog 46 #[.int .i64 a0] w fun e w' => e = .returned (.int .i64 r) ∧ Drawn0 w w' := by
 have H : (plan_power.l0 k 1 a0 0) = some r := h
 clear h
 have H' := Aside0.mk H
 clear H
 go_enter Tryz.func46, Tryz.ntmps46
 go_wp2
 go_loopg [3, 5] k (fun kq v3 v5 w' => ∃ (x3_1 : Int) (x5_1 : Int), v3 = .int .i64 x3_1 ∧ v5 = .int .i64 x5_1 ∧ Aside0 (plan_power.l0 kq x3_1 a0 x5_1 = some r) ∧ Aside0 (kq ≤ k) ∧ Drawn0 w w')
 case atStart => exact ⟨(1), (0), (zq6), (zq6), H', ⟨Nat.le_refl _⟩, by repeat (first | exact Drawn0.refl _ | apply Drawn0.step)⟩
 case round =>
  clear H'
  obtain ⟨x3_1, x5_1, rfl, rfl, HA, HK1, ⟨m1, rfl⟩⟩ := hrel
  cases gk with
  | zero => exact absurd HA.out (by simp [plan_power.l0])
  | succ k1 =>
   have H := HA.out
   clear HA
   simp only [plan_power.l0] at H
   by_cases c2 : x5_1 < a0
   ·rw [if_pos c2] at H
    have c2b0 : decide (x5_1 < a0) = true := decide_eq_true c2
    clear c2
    have H' := Aside0.mk H
    clear H
    go_wp2
    go_roundg k1
    case measure => have := HK1.out; omega
    case rel => exact ⟨(wrap64 (x3_1 * 10)), (wrap64 (x5_1 + 1)), (zq6), (zq6), H', ⟨by have := HK1.out; omega⟩, by repeat (first | exact Drawn0.refl _ | apply Drawn0.step)⟩
   ·rw [if_neg c2] at H
    have c2b0 : decide (x5_1 < a0) = false := decide_eq_false c2
    clear c2
    obtain rfl := Option.some.inj H
    go_wp2
    go_ret
    exact ⟨by first | rfl | (simp; done) | (simp [*]; done), by repeat (first | exact Drawn0.refl _ | apply Drawn0.step)⟩
def plan_Range.j0 : Nat → List (S29) → Int → Int → Bool → Option (Int × Int × Int)
 | 0, _, _, _, _ => none
 | k + 1, x0, x1, x2, x28 => if x28 = true then (some (0, 0, 120)) else (if 0 ≤ x1 then (if x1 < (x0.length : Int) then ((strconv_Atoi.f ((rd_T29 x0 x1).f1)).bind fun bt149 => ((plan_power.f k (wrap64 (8 - (((rd_T29 x0 x1).f1).size : Int)))).bind fun t151 => (if x2 = 1 then ((plan_room.f ((rd_T29 x0 x1).f0) ((rd_T29 x0 x1).f1) ((rd_T29 x0 x1).f2)).bind fun t152 => ((plan_power.f k t152).bind fun t153 => (some (wrap64 (bt149.1 * t151), wrap64 ((wrap64 (bt149.1 * t151)) + t153), 0)))) else (some (wrap64 (bt149.1 * t151), wrap64 ((wrap64 (bt149.1 * t151)) + t151), 0))))) else (none)) else (none))
def plan_Range.f (k : Nat) (l0 : List (S29)) (a1 : Int) (a2 : Int) : Option (Int × Int × Int) := (plan_Valid.f k l0).bind fun t144 => (if t144 = true then ((plan_isWithin.f a1 0 (wrap64 ((l0.length : Int) - 1))).bind fun t145 => (if t145 = true then ((plan_isPhase.f a2).bind fun t146 => (plan_Range.j0 k l0 a1 a2 (!t146))) else (plan_Range.j0 k l0 a1 a2 true))) else (plan_Range.j0 k l0 a1 a2 true))
theorem plan_Range.mono_l : ∀ k, (∀ y0 y1 y2 y3, LeO (plan_Range.j0 k y0 y1 y2 y3) (plan_Range.j0 (k + 1) y0 y1 y2 y3))
 | 0 => fun _ _ _ _ r h => by simp [plan_Range.j0] at h
 | k + 1 => by
  have ih0 := plan_Range.mono_l k
  ·intro y0 y1 y2 y3
   unfold plan_Range.j0
   repeat' first
   | (with_reducible exact ih0 _ _ _ _)
   | (with_reducible exact plan_Valid.mono _ _)
   | (with_reducible exact plan_power.mono _ _)
   | (with_reducible exact LeO.refl _)
   | (with_reducible exact LeO.none _)
   | (with_reducible refine LeO.ite ?_ ?_)
   | (with_reducible refine LeO.bind ?_ (fun _ => ?_))
   | exact ih0 _ _ _ _
   | exact plan_Valid.mono _ _
   | exact plan_power.mono _ _
   | exact LeO.none _
   | refine LeO.ite ?_ ?_
   | refine LeO.bind ?_ (fun _ => ?_)
theorem plan_Range.mono : ∀ a0 a1 a2 k, LeO (plan_Range.f k a0 a1 a2) (plan_Range.f (k + 1) a0 a1 a2) := by
 intro a0 a1 a2 k
 have ih0 := plan_Range.mono_l k
 unfold plan_Range.f
 repeat' first
  | (with_reducible exact ih0 _ _ _ _)
  | (with_reducible exact plan_Valid.mono _ _)
  | (with_reducible exact plan_power.mono _ _)
  | (with_reducible exact LeO.refl _)
  | (with_reducible exact LeO.none _)
  | (with_reducible refine LeO.ite ?_ ?_)
  | (with_reducible refine LeO.bind ?_ (fun _ => ?_))
  | exact ih0 _ _ _ _
  | exact plan_Valid.mono _ _
  | exact plan_power.mono _ _
  | exact LeO.none _
  | refine LeO.ite ?_ ?_
  | refine LeO.bind ?_ (fun _ => ?_)
set_option maxHeartbeats 8000000 in
set_option maxRecDepth 100000 in
theorem plan_Range.calls (k : Nat) (A0 : Option Addr) (c0 : Nat) (l0 : List (S29)) (a1 : Int) (a2 : Int) (r1 : Int) (r2 : Int) (r3 : Int) (w : World) (hr0 : Kd.C k29 w A0 l0.length l0) (hc0 : l0.length ≤ c0) (h : plan_Range.f k l0 a1 a2 = some (r1, r2, r3)) :
 Calls Tryz.prog 19 #[.slice A0 l0.length c0, .int .i64 a1, .int .i64 a2] w fun e w' => e = .returned (.tuple #[.agg #[.int .i64 r1, .int .i64 r2], .int .i64 r3]) ∧ Below w.heap.size w w' := by
 have hu40 := Tryz.underlying40
 have hu29 := Tryz.underlying29
 have HR0 := Aside0.mk hr0
 have HC0 := Aside0.mk hc0
 clear hr0 hc0
 have HB := Aside0.mk (Below.refl w.heap.size w)
 have H : ((plan_Valid.f k l0).bind fun t144 => (if t144 = true then ((plan_isWithin.f a1 0 (wrap64 ((l0.length : Int) - 1))).bind fun t145 => (if t145 = true then ((plan_isPhase.f a2).bind fun t146 => (plan_Range.j0 k l0 a1 a2 (!t146))) else (plan_Range.j0 k l0 a1 a2 true))) else (plan_Range.j0 k l0 a1 a2 true))) = some (r1, r2, r3) := h
 clear h
 have HC4 := Aside0.mk H
 clear H
 go_enter Tryz.func19, Tryz.ntmps19
 go_upto_region 1 with (first | ((with_reducible refine gate_dst (N := 6) rfl ?_); (try (refine gate_guard (by rfl) ?_; dsimp only)); refine box_event ?hg (N := 6) ?hd (cs := #[.int .i64 0, .int .i64 0]) (t := 40) ?hr ?_; (case hd => rfl); (case hg => rfl); (case hr => exact zq0); intro gb143 hg w5 hbox hb; have n0_ := Aside0.mk (below_step (zq1) hb); have n1_ := Aside0.mk (hbox); have n2_ := Aside0.mk ((zq2 : w.heap.size ≤ gb143)); have n3_ := Aside0.mk ((zq2 : w.heap.size ≤ gb143)); clear HB; have HB := n0_; have BK143 := n1_; have GW143 := n2_; have GE143 := n3_; clear n0_ n1_ n2_ n3_; clear hb hbox hg))
 repeat (go_quiet (first | ((with_reducible refine gate_dst (N := 6) rfl ?_); (try (refine gate_guard (by rfl) ?_; dsimp only)); refine box_event ?hg (N := 6) ?hd (cs := #[.int .i64 0, .int .i64 0]) (t := 40) ?hr ?_; (case hd => rfl); (case hg => rfl); (case hr => exact zq0); intro gb143 hg w5 hbox hb; have n0_ := Aside0.mk (below_step (zq1) hb); have n1_ := Aside0.mk (hbox); have n2_ := Aside0.mk ((zq2 : w.heap.size ≤ gb143)); have n3_ := Aside0.mk ((zq2 : w.heap.size ≤ gb143)); clear HB; have HB := n0_; have BK143 := n1_; have GW143 := n2_; have GE143 := n3_; clear n0_ n1_ n2_ n3_; clear hb hbox hg)); go_upto_region 1 with (first | ((with_reducible refine gate_dst (N := 6) rfl ?_); (try (refine gate_guard (by rfl) ?_; dsimp only)); refine box_event ?hg (N := 6) ?hd (cs := #[.int .i64 0, .int .i64 0]) (t := 40) ?hr ?_; (case hd => rfl); (case hg => rfl); (case hr => exact zq0); intro gb143 hg w5 hbox hb; have n0_ := Aside0.mk (below_step (zq1) hb); have n1_ := Aside0.mk (hbox); have n2_ := Aside0.mk ((zq2 : w.heap.size ≤ gb143)); have n3_ := Aside0.mk ((zq2 : w.heap.size ≤ gb143)); clear HB; have HB := n0_; have BK143 := n1_; have GW143 := n2_; have GE143 := n3_; clear n0_ n1_ n2_ n3_; clear hb hbox hg)))
 (try simp only [Act.put, List.setIfInBounds_toArray, List.set_cons_zero, List.set_cons_succ])
 go_cut [28] (fun v28 wc => ∃ (kq : Nat) (x28_3 : Bool), v28 = .bool x28_3 ∧ Aside0 (plan_Range.j0 kq l0 a1 a2 x28_3 = some (r1, r2, r3)) ∧ Aside0 (kq ≤ k) ∧ Aside0 (wc.heap[gb143]? = some (.cells #[.int .i64 0, .int .i64 0] 40 (0, 0))) ∧ Aside0 (Below w.heap.size w wc))
 case first =>
  have H := HC4.out
  clear HC4
  replace H := Option.bind_eq_some_iff.mp H
  obtain ⟨t144, A60, H⟩ := H
  replace H : (if t144 = true then ((plan_isWithin.f a1 0 (wrap64 ((l0.length : Int) - 1))).bind fun t145 => (if t145 = true then ((plan_isPhase.f a2).bind fun t146 => (plan_Range.j0 k l0 a1 a2 (!t146))) else (plan_Range.j0 k l0 a1 a2 true))) else (plan_Range.j0 k l0 a1 a2 true)) = some (r1, r2, r3) := H
  have A6 := Aside0.mk A60
  clear A60
  by_cases c7 : t144 = true
  ·subst c7
   have H1 : ((plan_isWithin.f a1 0 (wrap64 ((l0.length : Int) - 1))).bind fun t145 => (if t145 = true then ((plan_isPhase.f a2).bind fun t146 => (plan_Range.j0 k l0 a1 a2 (!t146))) else (plan_Range.j0 k l0 a1 a2 true))) = some (r1, r2, r3) := by rw [if_pos rfl] at H; exact H
   clear H
   have H := H1
   clear H1
   replace H := Option.bind_eq_some_iff.mp H
   obtain ⟨t145, A80, H⟩ := H
   replace H : (if t145 = true then ((plan_isPhase.f a2).bind fun t146 => (plan_Range.j0 k l0 a1 a2 (!t146))) else (plan_Range.j0 k l0 a1 a2 true)) = some (r1, r2, r3) := H
   have A8 := Aside0.mk A80
   clear A80
   by_cases c9 : t145 = true
   ·subst c9
    have H1 : ((plan_isPhase.f a2).bind fun t146 => (plan_Range.j0 k l0 a1 a2 (!t146))) = some (r1, r2, r3) := by rw [if_pos rfl] at H; exact H
    clear H
    have H := H1
    clear H1
    replace H := Option.bind_eq_some_iff.mp H
    obtain ⟨t146, A100, H⟩ := H
    replace H : (plan_Range.j0 k l0 a1 a2 (!t146)) = some (r1, r2, r3) := H
    have A10 := Aside0.mk A100
    clear A100
    have H' := Aside0.mk H
    clear H
    go_wp2_with (first | (go_at_call 25; (with_reducible refine (plan_Valid.calls k _ _ l0 true _ ?side1 ?side2 A6.out).mono ?_); (case side1 => exact zq25); (case side2 => exact zq26); rintro e w11 ⟨rfl, hb⟩; have n0_ := Aside0.mk (blk_below (g := gb143) (o := .cells #[.int .i64 0, .int .i64 0] 40 (0, 0)) (zq33) hb); have n1_ := Aside0.mk (below_step (zq34) hb); clear BK143; clear HB; have BK143 := n0_; have HB := n1_; clear n0_ n1_; (try clear hb); (try clear hb2); (try clear hk); (try clear hi)) | (go_at_call 36; (with_reducible refine (plan_isWithin.calls a1 0 (wrap64 ((l0.length : Int) - 1)) true _ A8.out).mono ?_); rintro e w' ⟨rfl, ⟨nd, rfl⟩⟩; (try first | exact ⟨rfl, _, World.drewN_drewN _ _ _⟩ | exact ⟨rfl, _, Eq.trans (World.drewN_drewN _ _ _) (congrArg (World.drewN _) (Nat.add_assoc _ _ _))⟩)) | (go_at_call 35; (with_reducible refine (plan_isPhase.calls a2 t146 _ A10.out).mono ?_); rintro e w' ⟨rfl, ⟨nd, rfl⟩⟩; (try first | exact ⟨rfl, _, World.drewN_drewN _ _ _⟩ | exact ⟨rfl, _, Eq.trans (World.drewN_drewN _ _ _) (congrArg (World.drewN _) (Nat.add_assoc _ _ _))⟩)))
    repeat (go_quiet (first | (go_at_call 25; (with_reducible refine (plan_Valid.calls k _ _ l0 true _ ?side1 ?side2 A6.out).mono ?_); (case side1 => exact zq25); (case side2 => exact zq26); rintro e w11 ⟨rfl, hb⟩; have n0_ := Aside0.mk (blk_below (g := gb143) (o := .cells #[.int .i64 0, .int .i64 0] 40 (0, 0)) (zq33) hb); have n1_ := Aside0.mk (below_step (zq34) hb); clear BK143; clear HB; have BK143 := n0_; have HB := n1_; clear n0_ n1_; (try clear hb); (try clear hb2); (try clear hk); (try clear hi)) | (go_at_call 36; (with_reducible refine (plan_isWithin.calls a1 0 (wrap64 ((l0.length : Int) - 1)) true _ A8.out).mono ?_); rintro e w' ⟨rfl, ⟨nd, rfl⟩⟩; (try first | exact ⟨rfl, _, World.drewN_drewN _ _ _⟩ | exact ⟨rfl, _, Eq.trans (World.drewN_drewN _ _ _) (congrArg (World.drewN _) (Nat.add_assoc _ _ _))⟩)) | (go_at_call 35; (with_reducible refine (plan_isPhase.calls a2 t146 _ A10.out).mono ?_); rintro e w' ⟨rfl, ⟨nd, rfl⟩⟩; (try first | exact ⟨rfl, _, World.drewN_drewN _ _ _⟩ | exact ⟨rfl, _, Eq.trans (World.drewN_drewN _ _ _) (congrArg (World.drewN _) (Nat.add_assoc _ _ _))⟩))); try go_wp2_with (first | (go_at_call 25; (with_reducible refine (plan_Valid.calls k _ _ l0 true _ ?side1 ?side2 A6.out).mono ?_); (case side1 => exact zq25); (case side2 => exact zq26); rintro e w11 ⟨rfl, hb⟩; have n0_ := Aside0.mk (blk_below (g := gb143) (o := .cells #[.int .i64 0, .int .i64 0] 40 (0, 0)) (zq33) hb); have n1_ := Aside0.mk (below_step (zq34) hb); clear BK143; clear HB; have BK143 := n0_; have HB := n1_; clear n0_ n1_; (try clear hb); (try clear hb2); (try clear hk); (try clear hi)) | (go_at_call 36; (with_reducible refine (plan_isWithin.calls a1 0 (wrap64 ((l0.length : Int) - 1)) true _ A8.out).mono ?_); rintro e w' ⟨rfl, ⟨nd, rfl⟩⟩; (try first | exact ⟨rfl, _, World.drewN_drewN _ _ _⟩ | exact ⟨rfl, _, Eq.trans (World.drewN_drewN _ _ _) (congrArg (World.drewN _) (Nat.add_assoc _ _ _))⟩)) | (go_at_call 35; (with_reducible refine (plan_isPhase.calls a2 t146 _ A10.out).mono ?_); rintro e w' ⟨rfl, ⟨nd, rfl⟩⟩; (try first | exact ⟨rfl, _, World.drewN_drewN _ _ _⟩ | exact ⟨rfl, _, Eq.trans (World.drewN_drewN _ _ _) (congrArg (World.drewN _) (Nat.add_assoc _ _ _))⟩))))
    go_meet
    case rel => exact ⟨_, (!t146), (zq6), H', ⟨by first | omega | exact Nat.le_refl _⟩, ⟨by (with_reducible repeat (first | refine blk_drewN ?_ _ | refine blk_drew ?_ | refine blk_alloc ?_ _)); exact BK143.out⟩, ⟨by repeat (first | (with_reducible first | exact HB.out | apply below_alloc | apply pw_below_drewN | apply below_drew1 | refine below_set ?_ GE143.out) | exact HB.out)⟩⟩
   ·replace c9 := Bool.eq_false_iff.mpr c9
    subst c9
    have H1 : (plan_Range.j0 k l0 a1 a2 true) = some (r1, r2, r3) := by rw [if_neg (show ¬ (false = true) by decide)] at H; exact H
    clear H
    have H := H1
    clear H1
    have H' := Aside0.mk H
    clear H
    go_wp2_with (first | (go_at_call 25; (with_reducible refine (plan_Valid.calls k _ _ l0 true _ ?side1 ?side2 A6.out).mono ?_); (case side1 => exact zq25); (case side2 => exact zq26); rintro e w12 ⟨rfl, hb⟩; have n0_ := Aside0.mk (blk_below (g := gb143) (o := .cells #[.int .i64 0, .int .i64 0] 40 (0, 0)) (zq33) hb); have n1_ := Aside0.mk (below_step (zq34) hb); clear BK143; clear HB; have BK143 := n0_; have HB := n1_; clear n0_ n1_; (try clear hb); (try clear hb2); (try clear hk); (try clear hi)) | (go_at_call 36; (with_reducible refine (plan_isWithin.calls a1 0 (wrap64 ((l0.length : Int) - 1)) false _ A8.out).mono ?_); rintro e w' ⟨rfl, ⟨nd, rfl⟩⟩; (try first | exact ⟨rfl, _, World.drewN_drewN _ _ _⟩ | exact ⟨rfl, _, Eq.trans (World.drewN_drewN _ _ _) (congrArg (World.drewN _) (Nat.add_assoc _ _ _))⟩)))
    repeat (go_quiet (first | (go_at_call 25; (with_reducible refine (plan_Valid.calls k _ _ l0 true _ ?side1 ?side2 A6.out).mono ?_); (case side1 => exact zq25); (case side2 => exact zq26); rintro e w12 ⟨rfl, hb⟩; have n0_ := Aside0.mk (blk_below (g := gb143) (o := .cells #[.int .i64 0, .int .i64 0] 40 (0, 0)) (zq33) hb); have n1_ := Aside0.mk (below_step (zq34) hb); clear BK143; clear HB; have BK143 := n0_; have HB := n1_; clear n0_ n1_; (try clear hb); (try clear hb2); (try clear hk); (try clear hi)) | (go_at_call 36; (with_reducible refine (plan_isWithin.calls a1 0 (wrap64 ((l0.length : Int) - 1)) false _ A8.out).mono ?_); rintro e w' ⟨rfl, ⟨nd, rfl⟩⟩; (try first | exact ⟨rfl, _, World.drewN_drewN _ _ _⟩ | exact ⟨rfl, _, Eq.trans (World.drewN_drewN _ _ _) (congrArg (World.drewN _) (Nat.add_assoc _ _ _))⟩))); try go_wp2_with (first | (go_at_call 25; (with_reducible refine (plan_Valid.calls k _ _ l0 true _ ?side1 ?side2 A6.out).mono ?_); (case side1 => exact zq25); (case side2 => exact zq26); rintro e w12 ⟨rfl, hb⟩; have n0_ := Aside0.mk (blk_below (g := gb143) (o := .cells #[.int .i64 0, .int .i64 0] 40 (0, 0)) (zq33) hb); have n1_ := Aside0.mk (below_step (zq34) hb); clear BK143; clear HB; have BK143 := n0_; have HB := n1_; clear n0_ n1_; (try clear hb); (try clear hb2); (try clear hk); (try clear hi)) | (go_at_call 36; (with_reducible refine (plan_isWithin.calls a1 0 (wrap64 ((l0.length : Int) - 1)) false _ A8.out).mono ?_); rintro e w' ⟨rfl, ⟨nd, rfl⟩⟩; (try first | exact ⟨rfl, _, World.drewN_drewN _ _ _⟩ | exact ⟨rfl, _, Eq.trans (World.drewN_drewN _ _ _) (congrArg (World.drewN _) (Nat.add_assoc _ _ _))⟩))))
    go_meet
    case rel => exact ⟨_, (true), (zq6), H', ⟨by first | omega | exact Nat.le_refl _⟩, ⟨by (with_reducible repeat (first | refine blk_drewN ?_ _ | refine blk_drew ?_ | refine blk_alloc ?_ _)); exact BK143.out⟩, ⟨by repeat (first | (with_reducible first | exact HB.out | apply below_alloc | apply pw_below_drewN | apply below_drew1 | refine below_set ?_ GE143.out) | exact HB.out)⟩⟩
  ·replace c7 := Bool.eq_false_iff.mpr c7
   subst c7
   have H1 : (plan_Range.j0 k l0 a1 a2 true) = some (r1, r2, r3) := by rw [if_neg (show ¬ (false = true) by decide)] at H; exact H
   clear H
   have H := H1
   clear H1
   have H' := Aside0.mk H
   clear H
   go_wp2_with (first | (go_at_call 25; (with_reducible refine (plan_Valid.calls k _ _ l0 false _ ?side1 ?side2 A6.out).mono ?_); (case side1 => exact zq25); (case side2 => exact zq26); rintro e w13 ⟨rfl, hb⟩; have n0_ := Aside0.mk (blk_below (g := gb143) (o := .cells #[.int .i64 0, .int .i64 0] 40 (0, 0)) (zq33) hb); have n1_ := Aside0.mk (below_step (zq34) hb); clear BK143; clear HB; have BK143 := n0_; have HB := n1_; clear n0_ n1_; (try clear hb); (try clear hb2); (try clear hk); (try clear hi)))
   repeat (go_quiet (first | (go_at_call 25; (with_reducible refine (plan_Valid.calls k _ _ l0 false _ ?side1 ?side2 A6.out).mono ?_); (case side1 => exact zq25); (case side2 => exact zq26); rintro e w13 ⟨rfl, hb⟩; have n0_ := Aside0.mk (blk_below (g := gb143) (o := .cells #[.int .i64 0, .int .i64 0] 40 (0, 0)) (zq33) hb); have n1_ := Aside0.mk (below_step (zq34) hb); clear BK143; clear HB; have BK143 := n0_; have HB := n1_; clear n0_ n1_; (try clear hb); (try clear hb2); (try clear hk); (try clear hi))); try go_wp2_with (first | (go_at_call 25; (with_reducible refine (plan_Valid.calls k _ _ l0 false _ ?side1 ?side2 A6.out).mono ?_); (case side1 => exact zq25); (case side2 => exact zq26); rintro e w13 ⟨rfl, hb⟩; have n0_ := Aside0.mk (blk_below (g := gb143) (o := .cells #[.int .i64 0, .int .i64 0] 40 (0, 0)) (zq33) hb); have n1_ := Aside0.mk (below_step (zq34) hb); clear BK143; clear HB; have BK143 := n0_; have HB := n1_; clear n0_ n1_; (try clear hb); (try clear hb2); (try clear hk); (try clear hi))))
   go_meet
   case rel => exact ⟨_, (true), (zq6), H', ⟨by first | omega | exact Nat.le_refl _⟩, ⟨by (with_reducible repeat (first | refine blk_drewN ?_ _ | refine blk_drew ?_ | refine blk_alloc ?_ _)); exact BK143.out⟩, ⟨by repeat (first | (with_reducible first | exact HB.out | apply below_alloc | apply pw_below_drewN | apply below_drew1 | refine below_set ?_ GE143.out) | exact HB.out)⟩⟩
 case rest =>
  clear HC4
  try clear c1
  try clear p2
  try clear p6
  try clear c7
  try clear c9
  obtain ⟨kq, x28_3, rfl, HA, HJ3, BK143, HB⟩ := hcut
  cases kq with
  | zero => exact absurd HA.out (by simp [plan_Range.j0])
  | succ kj3 =>
   have H := HA.out
   clear HA
   simp only [plan_Range.j0] at H
   by_cases c14 : x28_3 = true
   ·subst c14
    have H1 : (some (0, 0, 120)) = some (r1, r2, r3) := by rw [if_pos rfl] at H; exact H
    clear H
    have H := H1
    clear H1
    simp only [Option.some.injEq, Prod.mk.injEq] at H
    obtain ⟨rfl, rfl, rfl⟩ := H
    have hcz15_0 : wc.cell? ⟨gb143, 0, none⟩ = some (.int .i64 0) := (blk_cell BK143.out 0).trans rfl
    have hcz15_1 : wc.cell? ⟨gb143, 1, none⟩ = some (.int .i64 0) := (blk_cell BK143.out 1).trans rfl
    have hfz15_0 := blk_frozen BK143.out 0
    have hfz15_1 := blk_frozen BK143.out 1
    go_wp2
    repeat (go_quiet (fail); try go_wp2)
    refine bodyPost_ret (results_ct rfl _ _ gb143 40 #[.int .i64 0, .int .i64 0] (0, 0) _ rfl (by (with_reducible repeat (first | refine blk_drewN ?_ _ | refine blk_drew ?_ | refine blk_alloc ?_ _)); refine blk_put (cs := #[.int .i64 0, .int .i64 0]) ?_ 1 _ rfl; (with_reducible repeat (first | refine blk_drewN ?_ _ | refine blk_drew ?_ | refine blk_alloc ?_ _)); refine blk_put (cs := #[.int .i64 0, .int .i64 0]) ?_ 0 _ rfl; (with_reducible repeat (first | refine blk_drewN ?_ _ | refine blk_drew ?_ | refine blk_alloc ?_ _)); exact BK143.out) Tryz.underlying40 rfl (by kernel_rfl)) rfl ?_
    exact ⟨by first | rfl | (simp [errW_none, errW_some] <;> rfl) | (simp [*, errW_none, errW_some] <;> rfl), by repeat (first | (with_reducible first | exact HB.out | apply below_alloc | apply pw_below_drewN | apply below_drew1 | refine below_set ?_ GE143.out) | exact HB.out)⟩
   ·replace c14 := Bool.eq_false_iff.mpr c14
    subst c14
    have H1 : (if 0 ≤ a1 then (if a1 < (l0.length : Int) then ((strconv_Atoi.f ((rd_T29 l0 a1).f1)).bind fun bt149 => ((plan_power.f kj3 (wrap64 (8 - (((rd_T29 l0 a1).f1).size : Int)))).bind fun t151 => (if a2 = 1 then ((plan_room.f ((rd_T29 l0 a1).f0) ((rd_T29 l0 a1).f1) ((rd_T29 l0 a1).f2)).bind fun t152 => ((plan_power.f kj3 t152).bind fun t153 => (some (wrap64 (bt149.1 * t151), wrap64 ((wrap64 (bt149.1 * t151)) + t153), 0)))) else (some (wrap64 (bt149.1 * t151), wrap64 ((wrap64 (bt149.1 * t151)) + t151), 0))))) else (none)) else (none)) = some (r1, r2, r3) := by rw [if_neg (show ¬ (false = true) by decide)] at H; exact H
    clear H
    have H := H1
    clear H1
    by_cases c16 : 0 ≤ a1
    ·rw [if_pos c16] at H
     have c16b0 : decide (0 ≤ a1) = true := decide_eq_true c16
     clear c16
     by_cases c17 : a1 < (l0.length : Int)
     ·rw [if_pos c17] at H
      have c17b0 : decide (a1 < (l0.length : Int)) = true := decide_eq_true c17
      clear c17
      replace H := Option.bind_eq_some_iff.mp H
      obtain ⟨⟨t149, t150⟩, A180, H⟩ := H
      replace H : ((plan_power.f kj3 (wrap64 (8 - (((rd_T29 l0 a1).f1).size : Int)))).bind fun t151 => (if a2 = 1 then ((plan_room.f ((rd_T29 l0 a1).f0) ((rd_T29 l0 a1).f1) ((rd_T29 l0 a1).f2)).bind fun t152 => ((plan_power.f kj3 t152).bind fun t153 => (some (wrap64 (t149 * t151), wrap64 ((wrap64 (t149 * t151)) + t153), 0)))) else (some (wrap64 (t149 * t151), wrap64 ((wrap64 (t149 * t151)) + t151), 0)))) = some (r1, r2, r3) := H
      have A18 := Aside0.mk A180
      clear A180
      replace H := Option.bind_eq_some_iff.mp H
      obtain ⟨t151, A190, H⟩ := H
      replace H : (if a2 = 1 then ((plan_room.f ((rd_T29 l0 a1).f0) ((rd_T29 l0 a1).f1) ((rd_T29 l0 a1).f2)).bind fun t152 => ((plan_power.f kj3 t152).bind fun t153 => (some (wrap64 (t149 * t151), wrap64 ((wrap64 (t149 * t151)) + t153), 0)))) else (some (wrap64 (t149 * t151), wrap64 ((wrap64 (t149 * t151)) + t151), 0))) = some (r1, r2, r3) := H
      have A19 := Aside0.mk A190
      clear A190
      by_cases c20 : a2 = 1
      ·rw [if_pos c20] at H
       have c20b0 : (a2 == 1) = true := beq_iff_eq.mpr c20
       have c20b1 : (a2 != 1) = false := bne_eq_false_iff_eq.mpr c20
       clear c20
       replace H := Option.bind_eq_some_iff.mp H
       obtain ⟨t152, A210, H⟩ := H
       replace H : ((plan_power.f kj3 t152).bind fun t153 => (some (wrap64 (t149 * t151), wrap64 ((wrap64 (t149 * t151)) + t153), 0))) = some (r1, r2, r3) := H
       have A21 := Aside0.mk A210
       clear A210
       replace H := Option.bind_eq_some_iff.mp H
       obtain ⟨t153, A220, H⟩ := H
       replace H : (some (wrap64 (t149 * t151), wrap64 ((wrap64 (t149 * t151)) + t153), 0)) = some (r1, r2, r3) := H
       have A22 := Aside0.mk A220
       clear A220
       simp only [Option.some.injEq, Prod.mk.injEq] at H
       obtain ⟨rfl, rfl, rfl⟩ := H
       have p147 : 0 ≤ (a1 : Int) := of_decide_eq_true (zq14)
       have q147 : a1 < (l0.length : Int) := of_decide_eq_true (zq14)
       obtain ⟨ad147, e147, hx147_0, hx147_1, hx147_2⟩ := at_T29 HR0.out a1 p147 q147
       cases e147
       replace hx147_0 := (HB.out.cell (World.block_lt_of_cell? w _ hx147_0)).trans hx147_0
       replace hx147_1 := (HB.out.cell (World.block_lt_of_cell? w _ hx147_1)).trans hx147_1
       replace hx147_2 := (HB.out.cell (World.block_lt_of_cell? w _ hx147_2)).trans hx147_2
       replace p147 := eq_true p147
       replace q147 := eq_true q147
       go_wp2_with (first | ((with_reducible refine gate_dst (N := 8) rfl ?_); (try (refine gate_guard (by rfl) ?_; dsimp only)); refine box_event ?hg (N := 8) ?hd (cs := #[.string (⟨#[]⟩ : ByteArray), .string (⟨#[]⟩ : ByteArray), .int .i64 0]) (t := 29) ?hr ?_; (case hd => rfl); (case hg => rfl); (case hr => exact zq0); intro gb148 hg w23 hbox hb; have n0_ := Aside0.mk (blk_below (g := gb143) (o := .cells #[.int .i64 0, .int .i64 0] 40 (0, 0)) (zq33) hb); have n1_ := Aside0.mk (below_step (zq34) hb); have n2_ := Aside0.mk (hbox); have n3_ := Aside0.mk ((zq35 : w.heap.size ≤ gb148)); have n4_ := Aside0.mk ((zq35 : w.heap.size ≤ gb148)); have n5_ := Aside0.mk ((zq36 : gb143 ≠ gb148)); have n6_ := Aside0.mk ((zq37 : gb148 ≠ gb143)); clear BK143; clear HB; have BK143 := n0_; have HB := n1_; have BK148 := n2_; have GW148 := n3_; have GE148 := n4_; have NB143_148 := n5_; have NB148_143 := n6_; clear n0_ n1_ n2_ n3_ n4_ n5_ n6_; clear hb hbox hg; have hnb24 := NB148_143.out; have hnc24 := NB143_148.out; have hcz25_0 : w23.cell? ⟨gb148, 0, none⟩ = some (.string (⟨#[]⟩ : ByteArray)) := (blk_cell BK148.out 0).trans rfl; have hcz25_1 : w23.cell? ⟨gb148, 1, none⟩ = some (.string (⟨#[]⟩ : ByteArray)) := (blk_cell BK148.out 1).trans rfl; have hcz25_2 : w23.cell? ⟨gb148, 2, none⟩ = some (.int .i64 0) := (blk_cell BK148.out 2).trans rfl; have hfz25_0 := blk_frozen BK148.out 0; have hfz25_1 := blk_frozen BK148.out 1; have hfz25_2 := blk_frozen BK148.out 2) | (go_at_call 45; (with_reducible refine (strconv_Atoi.calls ((rd_T29 l0 a1).f1) t149 t150 _ A18.out).mono ?_); rintro e w26 ⟨rfl, hb⟩; have n0_ := Aside0.mk (blk_below (g := gb143) (o := .cells #[.int .i64 0, .int .i64 0] 40 (0, 0)) (zq38) hb); have n1_ := Aside0.mk (blk_below (g := gb148) (o := .cells #[.string ((rd_T29 l0 a1).f0), .string ((rd_T29 l0 a1).f1), .int .i64 ((rd_T29 l0 a1).f2)] 29 (0, 0)) (zq39) hb); have n2_ := Aside0.mk (below_step (zq40) hb); clear BK143; clear BK148; clear HB; have BK143 := n0_; have BK148 := n1_; have HB := n2_; clear n0_ n1_ n2_; (try clear hb); (try clear hb2); (try clear hk); (try clear hi); (try simp only [errW_none, errW_some]); have hcz27_0 : w26.cell? ⟨gb148, 0, none⟩ = some (.string ((rd_T29 l0 a1).f0)) := (blk_cell BK148.out 0).trans rfl; have hcz27_1 : w26.cell? ⟨gb148, 1, none⟩ = some (.string ((rd_T29 l0 a1).f1)) := (blk_cell BK148.out 1).trans rfl; have hcz27_2 : w26.cell? ⟨gb148, 2, none⟩ = some (.int .i64 ((rd_T29 l0 a1).f2)) := (blk_cell BK148.out 2).trans rfl; have hfz27_0 := blk_frozen BK148.out 0; have hfz27_1 := blk_frozen BK148.out 1; have hfz27_2 := blk_frozen BK148.out 2) | (go_at_call 46; (with_reducible refine (plan_power.calls kj3 (wrap64 (8 - (((rd_T29 l0 a1).f1).size : Int))) t151 _ A19.out).mono ?_); rintro e w' ⟨rfl, ⟨nd, rfl⟩⟩; (try first | exact ⟨rfl, _, World.drewN_drewN _ _ _⟩ | exact ⟨rfl, _, Eq.trans (World.drewN_drewN _ _ _) (congrArg (World.drewN _) (Nat.add_assoc _ _ _))⟩)) | (go_at_call 39; (with_reducible refine (plan_room.calls ((rd_T29 l0 a1).f0) ((rd_T29 l0 a1).f1) ((rd_T29 l0 a1).f2) t152 _ A21.out).mono ?_); rintro e w28 ⟨rfl, hb⟩; have n0_ := Aside0.mk (blk_below (g := gb143) (o := .cells #[.int .i64 0, .int .i64 0] 40 (0, 0)) (zq33) hb); have n1_ := Aside0.mk (blk_below (g := gb148) (o := .cells #[.string ((rd_T29 l0 a1).f0), .string ((rd_T29 l0 a1).f1), .int .i64 ((rd_T29 l0 a1).f2)] 29 (0, 0)) (zq41) hb); have n2_ := Aside0.mk (below_step (zq40) hb); clear BK143; clear BK148; clear HB; have BK143 := n0_; have BK148 := n1_; have HB := n2_; clear n0_ n1_ n2_; (try clear hb); (try clear hb2); (try clear hk); (try clear hi); have hcz29_0 : w28.cell? ⟨gb143, 0, none⟩ = some (.int .i64 0) := (blk_cell BK143.out 0).trans rfl; have hcz29_1 : w28.cell? ⟨gb143, 1, none⟩ = some (.int .i64 0) := (blk_cell BK143.out 1).trans rfl; have hfz29_0 := blk_frozen BK143.out 0; have hfz29_1 := blk_frozen BK143.out 1) | (go_at_call 46; (with_reducible refine (plan_power.calls kj3 t152 t153 _ A22.out).mono ?_); rintro e w' ⟨rfl, ⟨nd, rfl⟩⟩; (try first | exact ⟨rfl, _, World.drewN_drewN _ _ _⟩ | exact ⟨rfl, _, Eq.trans (World.drewN_drewN _ _ _) (congrArg (World.drewN _) (Nat.add_assoc _ _ _))⟩)))
       repeat (go_quiet (first | ((with_reducible refine gate_dst (N := 8) rfl ?_); (try (refine gate_guard (by rfl) ?_; dsimp only)); refine box_event ?hg (N := 8) ?hd (cs := #[.string (⟨#[]⟩ : ByteArray), .string (⟨#[]⟩ : ByteArray), .int .i64 0]) (t := 29) ?hr ?_; (case hd => rfl); (case hg => rfl); (case hr => exact zq0); intro gb148 hg w23 hbox hb; have n0_ := Aside0.mk (blk_below (g := gb143) (o := .cells #[.int .i64 0, .int .i64 0] 40 (0, 0)) (zq33) hb); have n1_ := Aside0.mk (below_step (zq34) hb); have n2_ := Aside0.mk (hbox); have n3_ := Aside0.mk ((zq35 : w.heap.size ≤ gb148)); have n4_ := Aside0.mk ((zq35 : w.heap.size ≤ gb148)); have n5_ := Aside0.mk ((zq36 : gb143 ≠ gb148)); have n6_ := Aside0.mk ((zq37 : gb148 ≠ gb143)); clear BK143; clear HB; have BK143 := n0_; have HB := n1_; have BK148 := n2_; have GW148 := n3_; have GE148 := n4_; have NB143_148 := n5_; have NB148_143 := n6_; clear n0_ n1_ n2_ n3_ n4_ n5_ n6_; clear hb hbox hg; have hnb24 := NB148_143.out; have hnc24 := NB143_148.out; have hcz25_0 : w23.cell? ⟨gb148, 0, none⟩ = some (.string (⟨#[]⟩ : ByteArray)) := (blk_cell BK148.out 0).trans rfl; have hcz25_1 : w23.cell? ⟨gb148, 1, none⟩ = some (.string (⟨#[]⟩ : ByteArray)) := (blk_cell BK148.out 1).trans rfl; have hcz25_2 : w23.cell? ⟨gb148, 2, none⟩ = some (.int .i64 0) := (blk_cell BK148.out 2).trans rfl; have hfz25_0 := blk_frozen BK148.out 0; have hfz25_1 := blk_frozen BK148.out 1; have hfz25_2 := blk_frozen BK148.out 2) | (go_at_call 45; (with_reducible refine (strconv_Atoi.calls ((rd_T29 l0 a1).f1) t149 t150 _ A18.out).mono ?_); rintro e w26 ⟨rfl, hb⟩; have n0_ := Aside0.mk (blk_below (g := gb143) (o := .cells #[.int .i64 0, .int .i64 0] 40 (0, 0)) (zq38) hb); have n1_ := Aside0.mk (blk_below (g := gb148) (o := .cells #[.string ((rd_T29 l0 a1).f0), .string ((rd_T29 l0 a1).f1), .int .i64 ((rd_T29 l0 a1).f2)] 29 (0, 0)) (zq39) hb); have n2_ := Aside0.mk (below_step (zq40) hb); clear BK143; clear BK148; clear HB; have BK143 := n0_; have BK148 := n1_; have HB := n2_; clear n0_ n1_ n2_; (try clear hb); (try clear hb2); (try clear hk); (try clear hi); (try simp only [errW_none, errW_some]); have hcz27_0 : w26.cell? ⟨gb148, 0, none⟩ = some (.string ((rd_T29 l0 a1).f0)) := (blk_cell BK148.out 0).trans rfl; have hcz27_1 : w26.cell? ⟨gb148, 1, none⟩ = some (.string ((rd_T29 l0 a1).f1)) := (blk_cell BK148.out 1).trans rfl; have hcz27_2 : w26.cell? ⟨gb148, 2, none⟩ = some (.int .i64 ((rd_T29 l0 a1).f2)) := (blk_cell BK148.out 2).trans rfl; have hfz27_0 := blk_frozen BK148.out 0; have hfz27_1 := blk_frozen BK148.out 1; have hfz27_2 := blk_frozen BK148.out 2) | (go_at_call 46; (with_reducible refine (plan_power.calls kj3 (wrap64 (8 - (((rd_T29 l0 a1).f1).size : Int))) t151 _ A19.out).mono ?_); rintro e w' ⟨rfl, ⟨nd, rfl⟩⟩; (try first | exact ⟨rfl, _, World.drewN_drewN _ _ _⟩ | exact ⟨rfl, _, Eq.trans (World.drewN_drewN _ _ _) (congrArg (World.drewN _) (Nat.add_assoc _ _ _))⟩)) | (go_at_call 39; (with_reducible refine (plan_room.calls ((rd_T29 l0 a1).f0) ((rd_T29 l0 a1).f1) ((rd_T29 l0 a1).f2) t152 _ A21.out).mono ?_); rintro e w28 ⟨rfl, hb⟩; have n0_ := Aside0.mk (blk_below (g := gb143) (o := .cells #[.int .i64 0, .int .i64 0] 40 (0, 0)) (zq33) hb); have n1_ := Aside0.mk (blk_below (g := gb148) (o := .cells #[.string ((rd_T29 l0 a1).f0), .string ((rd_T29 l0 a1).f1), .int .i64 ((rd_T29 l0 a1).f2)] 29 (0, 0)) (zq41) hb); have n2_ := Aside0.mk (below_step (zq40) hb); clear BK143; clear BK148; clear HB; have BK143 := n0_; have BK148 := n1_; have HB := n2_; clear n0_ n1_ n2_; (try clear hb); (try clear hb2); (try clear hk); (try clear hi); have hcz29_0 : w28.cell? ⟨gb143, 0, none⟩ = some (.int .i64 0) := (blk_cell BK143.out 0).trans rfl; have hcz29_1 : w28.cell? ⟨gb143, 1, none⟩ = some (.int .i64 0) := (blk_cell BK143.out 1).trans rfl; have hfz29_0 := blk_frozen BK143.out 0; have hfz29_1 := blk_frozen BK143.out 1) | (go_at_call 46; (with_reducible refine (plan_power.calls kj3 t152 t153 _ A22.out).mono ?_); rintro e w' ⟨rfl, ⟨nd, rfl⟩⟩; (try first | exact ⟨rfl, _, World.drewN_drewN _ _ _⟩ | exact ⟨rfl, _, Eq.trans (World.drewN_drewN _ _ _) (congrArg (World.drewN _) (Nat.add_assoc _ _ _))⟩))); try go_wp2_with (first | ((with_reducible refine gate_dst (N := 8) rfl ?_); (try (refine gate_guard (by rfl) ?_; dsimp only)); refine box_event ?hg (N := 8) ?hd (cs := #[.string (⟨#[]⟩ : ByteArray), .string (⟨#[]⟩ : ByteArray), .int .i64 0]) (t := 29) ?hr ?_; (case hd => rfl); (case hg => rfl); (case hr => exact zq0); intro gb148 hg w23 hbox hb; have n0_ := Aside0.mk (blk_below (g := gb143) (o := .cells #[.int .i64 0, .int .i64 0] 40 (0, 0)) (zq33) hb); have n1_ := Aside0.mk (below_step (zq34) hb); have n2_ := Aside0.mk (hbox); have n3_ := Aside0.mk ((zq35 : w.heap.size ≤ gb148)); have n4_ := Aside0.mk ((zq35 : w.heap.size ≤ gb148)); have n5_ := Aside0.mk ((zq36 : gb143 ≠ gb148)); have n6_ := Aside0.mk ((zq37 : gb148 ≠ gb143)); clear BK143; clear HB; have BK143 := n0_; have HB := n1_; have BK148 := n2_; have GW148 := n3_; have GE148 := n4_; have NB143_148 := n5_; have NB148_143 := n6_; clear n0_ n1_ n2_ n3_ n4_ n5_ n6_; clear hb hbox hg; have hnb24 := NB148_143.out; have hnc24 := NB143_148.out; have hcz25_0 : w23.cell? ⟨gb148, 0, none⟩ = some (.string (⟨#[]⟩ : ByteArray)) := (blk_cell BK148.out 0).trans rfl; have hcz25_1 : w23.cell? ⟨gb148, 1, none⟩ = some (.string (⟨#[]⟩ : ByteArray)) := (blk_cell BK148.out 1).trans rfl; have hcz25_2 : w23.cell? ⟨gb148, 2, none⟩ = some (.int .i64 0) := (blk_cell BK148.out 2).trans rfl; have hfz25_0 := blk_frozen BK148.out 0; have hfz25_1 := blk_frozen BK148.out 1; have hfz25_2 := blk_frozen BK148.out 2) | (go_at_call 45; (with_reducible refine (strconv_Atoi.calls ((rd_T29 l0 a1).f1) t149 t150 _ A18.out).mono ?_); rintro e w26 ⟨rfl, hb⟩; have n0_ := Aside0.mk (blk_below (g := gb143) (o := .cells #[.int .i64 0, .int .i64 0] 40 (0, 0)) (zq38) hb); have n1_ := Aside0.mk (blk_below (g := gb148) (o := .cells #[.string ((rd_T29 l0 a1).f0), .string ((rd_T29 l0 a1).f1), .int .i64 ((rd_T29 l0 a1).f2)] 29 (0, 0)) (zq39) hb); have n2_ := Aside0.mk (below_step (zq40) hb); clear BK143; clear BK148; clear HB; have BK143 := n0_; have BK148 := n1_; have HB := n2_; clear n0_ n1_ n2_; (try clear hb); (try clear hb2); (try clear hk); (try clear hi); (try simp only [errW_none, errW_some]); have hcz27_0 : w26.cell? ⟨gb148, 0, none⟩ = some (.string ((rd_T29 l0 a1).f0)) := (blk_cell BK148.out 0).trans rfl; have hcz27_1 : w26.cell? ⟨gb148, 1, none⟩ = some (.string ((rd_T29 l0 a1).f1)) := (blk_cell BK148.out 1).trans rfl; have hcz27_2 : w26.cell? ⟨gb148, 2, none⟩ = some (.int .i64 ((rd_T29 l0 a1).f2)) := (blk_cell BK148.out 2).trans rfl; have hfz27_0 := blk_frozen BK148.out 0; have hfz27_1 := blk_frozen BK148.out 1; have hfz27_2 := blk_frozen BK148.out 2) | (go_at_call 46; (with_reducible refine (plan_power.calls kj3 (wrap64 (8 - (((rd_T29 l0 a1).f1).size : Int))) t151 _ A19.out).mono ?_); rintro e w' ⟨rfl, ⟨nd, rfl⟩⟩; (try first | exact ⟨rfl, _, World.drewN_drewN _ _ _⟩ | exact ⟨rfl, _, Eq.trans (World.drewN_drewN _ _ _) (congrArg (World.drewN _) (Nat.add_assoc _ _ _))⟩)) | (go_at_call 39; (with_reducible refine (plan_room.calls ((rd_T29 l0 a1).f0) ((rd_T29 l0 a1).f1) ((rd_T29 l0 a1).f2) t152 _ A21.out).mono ?_); rintro e w28 ⟨rfl, hb⟩; have n0_ := Aside0.mk (blk_below (g := gb143) (o := .cells #[.int .i64 0, .int .i64 0] 40 (0, 0)) (zq33) hb); have n1_ := Aside0.mk (blk_below (g := gb148) (o := .cells #[.string ((rd_T29 l0 a1).f0), .string ((rd_T29 l0 a1).f1), .int .i64 ((rd_T29 l0 a1).f2)] 29 (0, 0)) (zq41) hb); have n2_ := Aside0.mk (below_step (zq40) hb); clear BK143; clear BK148; clear HB; have BK143 := n0_; have BK148 := n1_; have HB := n2_; clear n0_ n1_ n2_; (try clear hb); (try clear hb2); (try clear hk); (try clear hi)) | (go_at_call 46; (with_reducible refine (plan_power.calls kj3 t152 t153 _ A22.out).mono ?_); rintro e w' ⟨rfl, ⟨nd, rfl⟩⟩; (try first | exact ⟨rfl, _, World.drewN_drewN _ _ _⟩ | exact ⟨rfl, _, Eq.trans (World.drewN_drewN _ _ _) (congrArg (World.drewN _) (Nat.add_assoc _ _ _))⟩); have hcz29_0 : w28.cell? ⟨gb143, 0, none⟩ = some (.int .i64 0) := (blk_cell BK143.out 0).trans rfl; have hcz29_1 : w28.cell? ⟨gb143, 1, none⟩ = some (.int .i64 0) := (blk_cell BK143.out 1).trans rfl; have hfz29_0 := blk_frozen BK143.out 0; have hfz29_1 := blk_frozen BK143.out 1)))
       refine bodyPost_ret (results_ct rfl _ _ gb143 40 #[.int .i64 (wrap64 (t149 * t151)), .int .i64 (wrap64 ((wrap64 (t149 * t151)) + t153))] (0, 0) _ rfl (zq42) Tryz.underlying40 rfl (by kernel_rfl)) rfl ?_
       exact ⟨by first | rfl | (simp [errW_none, errW_some] <;> rfl) | (simp [*, errW_none, errW_some] <;> rfl), by repeat (first | (with_reducible first | exact HB.out | apply below_alloc | apply pw_below_drewN | apply below_drew1 | refine below_set ?_ GE143.out | refine below_set ?_ GE148.out) | exact HB.out)⟩
      ·rw [if_neg c20] at H
       have c20b0 : (a2 == 1) = false := beq_eq_false_iff_ne.mpr c20
       have c20b1 : (a2 != 1) = true := bne_iff_ne.mpr c20
       simp only [Option.some.injEq, Prod.mk.injEq] at H
       obtain ⟨rfl, rfl, rfl⟩ := H
       have p147 : 0 ≤ (a1 : Int) := of_decide_eq_true (zq14)
       have q147 : a1 < (l0.length : Int) := of_decide_eq_true (zq14)
       obtain ⟨ad147, e147, hx147_0, hx147_1, hx147_2⟩ := at_T29 HR0.out a1 p147 q147
       cases e147
       replace hx147_0 := (HB.out.cell (World.block_lt_of_cell? w _ hx147_0)).trans hx147_0
       replace hx147_1 := (HB.out.cell (World.block_lt_of_cell? w _ hx147_1)).trans hx147_1
       replace hx147_2 := (HB.out.cell (World.block_lt_of_cell? w _ hx147_2)).trans hx147_2
       replace p147 := eq_true p147
       replace q147 := eq_true q147
       go_wp2_with (first | ((with_reducible refine gate_dst (N := 8) rfl ?_); (try (refine gate_guard (by rfl) ?_; dsimp only)); refine box_event ?hg (N := 8) ?hd (cs := #[.string (⟨#[]⟩ : ByteArray), .string (⟨#[]⟩ : ByteArray), .int .i64 0]) (t := 29) ?hr ?_; (case hd => rfl); (case hg => rfl); (case hr => exact zq0); intro gb148 hg w30 hbox hb; have n0_ := Aside0.mk (blk_below (g := gb143) (o := .cells #[.int .i64 0, .int .i64 0] 40 (0, 0)) (zq33) hb); have n1_ := Aside0.mk (below_step (zq34) hb); have n2_ := Aside0.mk (hbox); have n3_ := Aside0.mk ((zq35 : w.heap.size ≤ gb148)); have n4_ := Aside0.mk ((zq35 : w.heap.size ≤ gb148)); have n5_ := Aside0.mk ((zq36 : gb143 ≠ gb148)); have n6_ := Aside0.mk ((zq37 : gb148 ≠ gb143)); clear BK143; clear HB; have BK143 := n0_; have HB := n1_; have BK148 := n2_; have GW148 := n3_; have GE148 := n4_; have NB143_148 := n5_; have NB148_143 := n6_; clear n0_ n1_ n2_ n3_ n4_ n5_ n6_; clear hb hbox hg; have hnb31 := NB148_143.out; have hnc31 := NB143_148.out; have hcz32_0 : w30.cell? ⟨gb148, 0, none⟩ = some (.string (⟨#[]⟩ : ByteArray)) := (blk_cell BK148.out 0).trans rfl; have hcz32_1 : w30.cell? ⟨gb148, 1, none⟩ = some (.string (⟨#[]⟩ : ByteArray)) := (blk_cell BK148.out 1).trans rfl; have hcz32_2 : w30.cell? ⟨gb148, 2, none⟩ = some (.int .i64 0) := (blk_cell BK148.out 2).trans rfl; have hfz32_0 := blk_frozen BK148.out 0; have hfz32_1 := blk_frozen BK148.out 1; have hfz32_2 := blk_frozen BK148.out 2) | (go_at_call 45; (with_reducible refine (strconv_Atoi.calls ((rd_T29 l0 a1).f1) t149 t150 _ A18.out).mono ?_); rintro e w33 ⟨rfl, hb⟩; have n0_ := Aside0.mk (blk_below (g := gb143) (o := .cells #[.int .i64 0, .int .i64 0] 40 (0, 0)) (zq38) hb); have n1_ := Aside0.mk (blk_below (g := gb148) (o := .cells #[.string ((rd_T29 l0 a1).f0), .string ((rd_T29 l0 a1).f1), .int .i64 ((rd_T29 l0 a1).f2)] 29 (0, 0)) (zq39) hb); have n2_ := Aside0.mk (below_step (zq40) hb); clear BK143; clear BK148; clear HB; have BK143 := n0_; have BK148 := n1_; have HB := n2_; clear n0_ n1_ n2_; (try clear hb); (try clear hb2); (try clear hk); (try clear hi); (try simp only [errW_none, errW_some]); have hcz34_0 : w33.cell? ⟨gb148, 0, none⟩ = some (.string ((rd_T29 l0 a1).f0)) := (blk_cell BK148.out 0).trans rfl; have hcz34_1 : w33.cell? ⟨gb148, 1, none⟩ = some (.string ((rd_T29 l0 a1).f1)) := (blk_cell BK148.out 1).trans rfl; have hcz34_2 : w33.cell? ⟨gb148, 2, none⟩ = some (.int .i64 ((rd_T29 l0 a1).f2)) := (blk_cell BK148.out 2).trans rfl; have hfz34_0 := blk_frozen BK148.out 0; have hfz34_1 := blk_frozen BK148.out 1; have hfz34_2 := blk_frozen BK148.out 2; have hcz35_0 : w33.cell? ⟨gb143, 0, none⟩ = some (.int .i64 0) := (blk_cell BK143.out 0).trans rfl; have hcz35_1 : w33.cell? ⟨gb143, 1, none⟩ = some (.int .i64 0) := (blk_cell BK143.out 1).trans rfl; have hfz35_0 := blk_frozen BK143.out 0; have hfz35_1 := blk_frozen BK143.out 1) | (go_at_call 46; (with_reducible refine (plan_power.calls kj3 (wrap64 (8 - (((rd_T29 l0 a1).f1).size : Int))) t151 _ A19.out).mono ?_); rintro e w' ⟨rfl, ⟨nd, rfl⟩⟩; (try first | exact ⟨rfl, _, World.drewN_drewN _ _ _⟩ | exact ⟨rfl, _, Eq.trans (World.drewN_drewN _ _ _) (congrArg (World.drewN _) (Nat.add_assoc _ _ _))⟩)))
       repeat (go_quiet (first | ((with_reducible refine gate_dst (N := 8) rfl ?_); (try (refine gate_guard (by rfl) ?_; dsimp only)); refine box_event ?hg (N := 8) ?hd (cs := #[.string (⟨#[]⟩ : ByteArray), .string (⟨#[]⟩ : ByteArray), .int .i64 0]) (t := 29) ?hr ?_; (case hd => rfl); (case hg => rfl); (case hr => exact zq0); intro gb148 hg w30 hbox hb; have n0_ := Aside0.mk (blk_below (g := gb143) (o := .cells #[.int .i64 0, .int .i64 0] 40 (0, 0)) (zq33) hb); have n1_ := Aside0.mk (below_step (zq34) hb); have n2_ := Aside0.mk (hbox); have n3_ := Aside0.mk ((zq35 : w.heap.size ≤ gb148)); have n4_ := Aside0.mk ((zq35 : w.heap.size ≤ gb148)); have n5_ := Aside0.mk ((zq36 : gb143 ≠ gb148)); have n6_ := Aside0.mk ((zq37 : gb148 ≠ gb143)); clear BK143; clear HB; have BK143 := n0_; have HB := n1_; have BK148 := n2_; have GW148 := n3_; have GE148 := n4_; have NB143_148 := n5_; have NB148_143 := n6_; clear n0_ n1_ n2_ n3_ n4_ n5_ n6_; clear hb hbox hg; have hnb31 := NB148_143.out; have hnc31 := NB143_148.out; have hcz32_0 : w30.cell? ⟨gb148, 0, none⟩ = some (.string (⟨#[]⟩ : ByteArray)) := (blk_cell BK148.out 0).trans rfl; have hcz32_1 : w30.cell? ⟨gb148, 1, none⟩ = some (.string (⟨#[]⟩ : ByteArray)) := (blk_cell BK148.out 1).trans rfl; have hcz32_2 : w30.cell? ⟨gb148, 2, none⟩ = some (.int .i64 0) := (blk_cell BK148.out 2).trans rfl; have hfz32_0 := blk_frozen BK148.out 0; have hfz32_1 := blk_frozen BK148.out 1; have hfz32_2 := blk_frozen BK148.out 2) | (go_at_call 45; (with_reducible refine (strconv_Atoi.calls ((rd_T29 l0 a1).f1) t149 t150 _ A18.out).mono ?_); rintro e w33 ⟨rfl, hb⟩; have n0_ := Aside0.mk (blk_below (g := gb143) (o := .cells #[.int .i64 0, .int .i64 0] 40 (0, 0)) (zq38) hb); have n1_ := Aside0.mk (blk_below (g := gb148) (o := .cells #[.string ((rd_T29 l0 a1).f0), .string ((rd_T29 l0 a1).f1), .int .i64 ((rd_T29 l0 a1).f2)] 29 (0, 0)) (zq39) hb); have n2_ := Aside0.mk (below_step (zq40) hb); clear BK143; clear BK148; clear HB; have BK143 := n0_; have BK148 := n1_; have HB := n2_; clear n0_ n1_ n2_; (try clear hb); (try clear hb2); (try clear hk); (try clear hi); (try simp only [errW_none, errW_some]); have hcz34_0 : w33.cell? ⟨gb148, 0, none⟩ = some (.string ((rd_T29 l0 a1).f0)) := (blk_cell BK148.out 0).trans rfl; have hcz34_1 : w33.cell? ⟨gb148, 1, none⟩ = some (.string ((rd_T29 l0 a1).f1)) := (blk_cell BK148.out 1).trans rfl; have hcz34_2 : w33.cell? ⟨gb148, 2, none⟩ = some (.int .i64 ((rd_T29 l0 a1).f2)) := (blk_cell BK148.out 2).trans rfl; have hfz34_0 := blk_frozen BK148.out 0; have hfz34_1 := blk_frozen BK148.out 1; have hfz34_2 := blk_frozen BK148.out 2; have hcz35_0 : w33.cell? ⟨gb143, 0, none⟩ = some (.int .i64 0) := (blk_cell BK143.out 0).trans rfl; have hcz35_1 : w33.cell? ⟨gb143, 1, none⟩ = some (.int .i64 0) := (blk_cell BK143.out 1).trans rfl; have hfz35_0 := blk_frozen BK143.out 0; have hfz35_1 := blk_frozen BK143.out 1) | (go_at_call 46; (with_reducible refine (plan_power.calls kj3 (wrap64 (8 - (((rd_T29 l0 a1).f1).size : Int))) t151 _ A19.out).mono ?_); rintro e w' ⟨rfl, ⟨nd, rfl⟩⟩; (try first | exact ⟨rfl, _, World.drewN_drewN _ _ _⟩ | exact ⟨rfl, _, Eq.trans (World.drewN_drewN _ _ _) (congrArg (World.drewN _) (Nat.add_assoc _ _ _))⟩))); try go_wp2_with (first | ((with_reducible refine gate_dst (N := 8) rfl ?_); (try (refine gate_guard (by rfl) ?_; dsimp only)); refine box_event ?hg (N := 8) ?hd (cs := #[.string (⟨#[]⟩ : ByteArray), .string (⟨#[]⟩ : ByteArray), .int .i64 0]) (t := 29) ?hr ?_; (case hd => rfl); (case hg => rfl); (case hr => exact zq0); intro gb148 hg w30 hbox hb; have n0_ := Aside0.mk (blk_below (g := gb143) (o := .cells #[.int .i64 0, .int .i64 0] 40 (0, 0)) (zq33) hb); have n1_ := Aside0.mk (below_step (zq34) hb); have n2_ := Aside0.mk (hbox); have n3_ := Aside0.mk ((zq35 : w.heap.size ≤ gb148)); have n4_ := Aside0.mk ((zq35 : w.heap.size ≤ gb148)); have n5_ := Aside0.mk ((zq36 : gb143 ≠ gb148)); have n6_ := Aside0.mk ((zq37 : gb148 ≠ gb143)); clear BK143; clear HB; have BK143 := n0_; have HB := n1_; have BK148 := n2_; have GW148 := n3_; have GE148 := n4_; have NB143_148 := n5_; have NB148_143 := n6_; clear n0_ n1_ n2_ n3_ n4_ n5_ n6_; clear hb hbox hg; have hnb31 := NB148_143.out; have hnc31 := NB143_148.out; have hcz32_0 : w30.cell? ⟨gb148, 0, none⟩ = some (.string (⟨#[]⟩ : ByteArray)) := (blk_cell BK148.out 0).trans rfl; have hcz32_1 : w30.cell? ⟨gb148, 1, none⟩ = some (.string (⟨#[]⟩ : ByteArray)) := (blk_cell BK148.out 1).trans rfl; have hcz32_2 : w30.cell? ⟨gb148, 2, none⟩ = some (.int .i64 0) := (blk_cell BK148.out 2).trans rfl; have hfz32_0 := blk_frozen BK148.out 0; have hfz32_1 := blk_frozen BK148.out 1; have hfz32_2 := blk_frozen BK148.out 2) | (go_at_call 45; (with_reducible refine (strconv_Atoi.calls ((rd_T29 l0 a1).f1) t149 t150 _ A18.out).mono ?_); rintro e w33 ⟨rfl, hb⟩; have n0_ := Aside0.mk (blk_below (g := gb143) (o := .cells #[.int .i64 0, .int .i64 0] 40 (0, 0)) (zq38) hb); have n1_ := Aside0.mk (blk_below (g := gb148) (o := .cells #[.string ((rd_T29 l0 a1).f0), .string ((rd_T29 l0 a1).f1), .int .i64 ((rd_T29 l0 a1).f2)] 29 (0, 0)) (zq39) hb); have n2_ := Aside0.mk (below_step (zq40) hb); clear BK143; clear BK148; clear HB; have BK143 := n0_; have BK148 := n1_; have HB := n2_; clear n0_ n1_ n2_; (try clear hb); (try clear hb2); (try clear hk); (try clear hi); (try simp only [errW_none, errW_some]); have hcz34_0 : w33.cell? ⟨gb148, 0, none⟩ = some (.string ((rd_T29 l0 a1).f0)) := (blk_cell BK148.out 0).trans rfl; have hcz34_1 : w33.cell? ⟨gb148, 1, none⟩ = some (.string ((rd_T29 l0 a1).f1)) := (blk_cell BK148.out 1).trans rfl; have hcz34_2 : w33.cell? ⟨gb148, 2, none⟩ = some (.int .i64 ((rd_T29 l0 a1).f2)) := (blk_cell BK148.out 2).trans rfl; have hfz34_0 := blk_frozen BK148.out 0; have hfz34_1 := blk_frozen BK148.out 1; have hfz34_2 := blk_frozen BK148.out 2) | (go_at_call 46; (with_reducible refine (plan_power.calls kj3 (wrap64 (8 - (((rd_T29 l0 a1).f1).size : Int))) t151 _ A19.out).mono ?_); rintro e w' ⟨rfl, ⟨nd, rfl⟩⟩; (try first | exact ⟨rfl, _, World.drewN_drewN _ _ _⟩ | exact ⟨rfl, _, Eq.trans (World.drewN_drewN _ _ _) (congrArg (World.drewN _) (Nat.add_assoc _ _ _))⟩); have hcz35_0 : w33.cell? ⟨gb143, 0, none⟩ = some (.int .i64 0) := (blk_cell BK143.out 0).trans rfl; have hcz35_1 : w33.cell? ⟨gb143, 1, none⟩ = some (.int .i64 0) := (blk_cell BK143.out 1).trans rfl; have hfz35_0 := blk_frozen BK143.out 0; have hfz35_1 := blk_frozen BK143.out 1)))
       refine bodyPost_ret (results_ct rfl _ _ gb143 40 #[.int .i64 (wrap64 (t149 * t151)), .int .i64 (wrap64 ((wrap64 (t149 * t151)) + t151))] (0, 0) _ rfl (zq42) Tryz.underlying40 rfl (by kernel_rfl)) rfl ?_
       exact ⟨by first | rfl | (simp [errW_none, errW_some] <;> rfl) | (simp [*, errW_none, errW_some] <;> rfl), by repeat (first | (with_reducible first | exact HB.out | apply below_alloc | apply pw_below_drewN | apply below_drew1 | refine below_set ?_ GE143.out | refine below_set ?_ GE148.out) | exact HB.out)⟩
     ·rw [if_neg c17] at H
      exact absurd H (by simp)
    ·rw [if_neg c16] at H
     exact absurd H (by simp)
end Go.Proofs.YtlmfoblgheepoaaGreatDoor.Pl
end
section
open Go.Proofs.YtlmfoblgheepoaaGreatDoor.Z
namespace Go.Proofs.YtlmfoblgheepoaaGreatDoor.Pl
open Go.RowKit Go.Proofs.YtlmfoblgheepoaaGreatDoorW.PrintWords Go.Proofs.YtlmfoblgheepoaaGreatDoorW.PrintLast Go.Proofs.YtlmfoblgheepoaaGreatDoorW.PrintMore
attribute [local go_sem] max2_int min2_int max_two min_two max_three min_three max_four min_four
set_option linter.unusedVariables false
set_option linter.unusedSimpArgs false
theorem eqA44 (d : Nat) (w : World) (x0 y0 : Int) (x1 y1 : Int) (x2 y2 : Int) (x3 y3 : Int) :
 (Op.equalIn (d + 2) 44 (.agg #[.int .i64 x0, .int .i64 x1, .int .i64 x2, .int .i64 x3]) (.agg #[.int .i64 y0, .int .i64 y1, .int .i64 y2, .int .i64 y3])).run Tryz.prog w = .ok (x0 == y0 && (x1 == y1 && (x2 == y2 && (x3 == y3)))) w := by
 refine eqA_of Tryz.underlying44 (by kernel_rfl) ?_
 refine eqf_cons (by rfl) (zq32) (zq32) (by go_simp) ?_
 refine eqf_cons (by rfl) (zq32) (zq32) (by go_simp) ?_
 refine eqf_cons (by rfl) (zq32) (zq32) (by go_simp) ?_
 exact eqf_last (by rfl) (zq32) (zq32) (by go_simp)
end Go.Proofs.YtlmfoblgheepoaaGreatDoor.Pl
end
section
open Go.Proofs.YtlmfoblgheepoaaGreatDoor.Z
namespace Go.Proofs.YtlmfoblgheepoaaGreatDoor.Pl
open Go.RowKit Go.Proofs.YtlmfoblgheepoaaGreatDoorW.PrintWords Go.Proofs.YtlmfoblgheepoaaGreatDoorW.PrintLast Go.Proofs.YtlmfoblgheepoaaGreatDoorW.PrintMore
attribute [local go_sem] max2_int min2_int max_two min_two max_three min_three max_four min_four
set_option linter.unusedVariables false
set_option linter.unusedSimpArgs false
attribute [local go_sem high] eqA44
def dialtonelaw12_example.f  : Option ((List (S29))) := some (([(⟨(⟨#[50]⟩ : ByteArray), (⟨#[56, 50]⟩ : ByteArray), 5⟩ : S29), (⟨(⟨#[51, 49]⟩ : ByteArray), (⟨#[57]⟩ : ByteArray), 5⟩ : S29)] : List (S29)))
set_option maxHeartbeats 8000000 in
set_option maxRecDepth 100000 in
theorem dialtonelaw12_example.calls  (r : List (S29)) (w : World) (h : dialtonelaw12_example.f  = some r) :
 Calls Tryz.prog 30 #[] w fun e w' => ∃ v0_ : Value, e = .returned (v0_) ∧ Kd.R k29 29 w' w.heap.size (fun _ => True) v0_ r ∧ Below w.heap.size w w' := by
 have hu29 := Tryz.underlying29
 have HB := Aside0.mk (Below.refl w.heap.size w)
 have H : (some (([(⟨(⟨#[50]⟩ : ByteArray), (⟨#[56, 50]⟩ : ByteArray), 5⟩ : S29), (⟨(⟨#[51, 49]⟩ : ByteArray), (⟨#[57]⟩ : ByteArray), 5⟩ : S29)] : List (S29)))) = some r := h
 clear h
 obtain ⟨y154, hy154⟩ : ∃ y_ : List (S29), y_ = (([(⟨(⟨#[50]⟩ : ByteArray), (⟨#[56, 50]⟩ : ByteArray), 5⟩ : S29), (⟨(⟨#[51, 49]⟩ : ByteArray), (⟨#[57]⟩ : ByteArray), 5⟩ : S29)] : List (S29))) := ⟨_, rfl⟩
 replace H : (some y154) = some r := by first | (rw [hy154]; with_reducible exact H) | (have H2_ := (Option.bind_some _ _).symm.trans H; rw [hy154]; with_reducible exact H2_) | (have H2_ := (Option.bind_some _ _).symm.trans H; with_reducible exact H2_) | with_reducible exact H | (rw [hy154]; exact H) | exact H
 have Ny154 := Aside0.mk hy154
 clear hy154
 obtain rfl := Option.some.inj H
 go_enter Tryz.func30, Tryz.ntmps30
 go_wp2_with (first | ((with_reducible refine gate_dst (N := 3) rfl ?_); refine Kd.R_lit k29 _ 29 ?hg (N := 3) ?hd (xs := ([(⟨(⟨#[50]⟩ : ByteArray), (⟨#[56, 50]⟩ : ByteArray), 5⟩ : S29), (⟨(⟨#[51, 49]⟩ : ByteArray), (⟨#[57]⟩ : ByteArray), 5⟩ : S29)] : List (S29))) (inner := [.string (⟨#[50]⟩ : ByteArray), .string (⟨#[56, 50]⟩ : ByteArray), .int .i64 5, .string (⟨#[51, 49]⟩ : ByteArray), .string (⟨#[57]⟩ : ByteArray), .int .i64 5]) (ok := fun _ => True) (okp := fun _ => True) ?hr ?hp (fun _ hk => hk) trivial (Below.refl _ _) (Nat.le_refl _) (by simp) ?_; (case hd => rfl); (case hg => rfl); (case hr => exact zq0); (case hp => exact (Reps.c3 (show Kd.M k29 _ _ _ (⟨(⟨#[50]⟩ : ByteArray), (⟨#[56, 50]⟩ : ByteArray), 5⟩ : S29) [.string (⟨#[50]⟩ : ByteArray), .string (⟨#[56, 50]⟩ : ByteArray), .int .i64 5] from (k29_mkM _ _ _ (⟨(⟨#[50]⟩ : ByteArray), (⟨#[56, 50]⟩ : ByteArray), 5⟩ : S29) )) (Reps.c3 (show Kd.M k29 _ _ _ (⟨(⟨#[51, 49]⟩ : ByteArray), (⟨#[57]⟩ : ByteArray), 5⟩ : S29) [.string (⟨#[51, 49]⟩ : ByteArray), .string (⟨#[57]⟩ : ByteArray), .int .i64 5] from (k29_mkM _ _ _ (⟨(⟨#[51, 49]⟩ : ByteArray), (⟨#[57]⟩ : ByteArray), 5⟩ : S29) )) (Reps.none _ _)))); intro v155 w1 ho2 hb hg_ hnew_; clear hg_ hnew_; (first | rw [← Ny154.out] at ho2 | (simp only [Int.reduceToNat] at ho2; rw [← Ny154.out] at ho2)); have n0_ := Aside0.mk (Kd.R_lower ho2 (below_size (zq1))); have n1_ := Aside0.mk (below_step (zq1) hb); clear HB; have HO156 := n0_; have HB := n1_; clear n0_ n1_; clear hb ho2))
 go_ret
 exact ⟨_, by first | rfl | (simp [errW_none, errW_some] <;> rfl) | (simp [*, errW_none, errW_some] <;> rfl), by (with_reducible repeat (first | apply Kd.R_alloc | apply Kd.R_drewN | apply Kd.R_drew)); exact HO156.out, by repeat (first | (with_reducible first | exact HB.out | apply below_alloc | apply pw_below_drewN | apply below_drew1) | exact HB.out)⟩
def dialtonelaw12_reads.f (k : Nat) (a0 : ByteArray) (a1 : Int) (a2 : Int) (a3 : Int) : Option (Bool) := (dialtonelaw12_example.f).bind fun t157 => ((plan_Read.f k t157 a0 2).bind fun bt160 => (if bt160.2.2.2.2 = 0 then (some (bt160.1 == 2 && (bt160.2.1 == a1 && (bt160.2.2.1 == a2 && (bt160.2.2.2.1 == a3))))) else (some false)))
theorem dialtonelaw12_reads.mono : ∀ a0 a1 a2 a3 k, LeO (dialtonelaw12_reads.f k a0 a1 a2 a3) (dialtonelaw12_reads.f (k + 1) a0 a1 a2 a3) := by
 intro a0 a1 a2 a3 k
 unfold dialtonelaw12_reads.f
 repeat' first
  | (with_reducible exact plan_Read.mono _ _ _ _)
  | (with_reducible exact LeO.refl _)
  | (with_reducible exact LeO.none _)
  | (with_reducible refine LeO.ite ?_ ?_)
  | (with_reducible refine LeO.bind ?_ (fun _ => ?_))
  | exact plan_Read.mono _ _ _ _
  | exact LeO.none _
  | refine LeO.ite ?_ ?_
  | refine LeO.bind ?_ (fun _ => ?_)
set_option maxHeartbeats 8000000 in
set_option maxRecDepth 100000 in
theorem dialtonelaw12_reads.calls (k : Nat) (a0 : ByteArray) (a1 : Int) (a2 : Int) (a3 : Int) (r : Bool) (w : World) (h : dialtonelaw12_reads.f k a0 a1 a2 a3 = some r) :
 Calls Tryz.prog 31 #[.string a0, .int .i64 a1, .int .i64 a2, .int .i64 a3] w fun e w' => e = .returned (.bool r) ∧ Below w.heap.size w w' := by
 have hu44 := Tryz.underlying44
 have HB := Aside0.mk (Below.refl w.heap.size w)
 have H : ((dialtonelaw12_example.f).bind fun t157 => ((plan_Read.f k t157 a0 2).bind fun bt160 => (if bt160.2.2.2.2 = 0 then (some (bt160.1 == 2 && (bt160.2.1 == a1 && (bt160.2.2.1 == a2 && (bt160.2.2.2.1 == a3))))) else (some false)))) = some r := h
 clear h
 replace H := Option.bind_eq_some_iff.mp H
 obtain ⟨t157, A50, H⟩ := H
 try dsimp only at H
 have A5 := Aside0.mk A50
 clear A50
 replace H := Option.bind_eq_some_iff.mp H
 obtain ⟨⟨t160, t161, t162, t163, t164⟩, A60, H⟩ := H
 try dsimp only at H
 have A6 := Aside0.mk A60
 clear A60
 by_cases c7 : t164 = 0
 ·rw [if_pos c7] at H
  have c7b0 : (t164 == 0) = true := beq_iff_eq.mpr c7
  have c7b1 : (t164 != 0) = false := bne_eq_false_iff_eq.mpr c7
  clear c7
  obtain rfl := Option.some.inj H
  go_enter Tryz.func31, Tryz.ntmps31
  go_wp2_with (first | ((with_reducible refine gate_callee (f := 30) rfl ?_); refine goesL_ (some 12) rfl rfl Tryz.func30 (by kernel_rfl) rfl #[] rfl (zq3) ?_; (with_reducible refine (dialtonelaw12_example.calls  t157 _ A5.out).mono ?_); rintro e w8 ⟨v158, rfl, ho0, hb⟩; refine ⟨_, rfl, ?_⟩; have n0_ := Aside0.mk (Kd.R_lower ho0 (below_size (zq1))); have n1_ := Aside0.mk (below_step (zq1) hb); clear HB; have HO159 := n0_; have HB := n1_; clear n0_ n1_; (try clear hb); (try clear hb2); (try clear hk); (try clear hi); (try clear ho0); obtain ⟨Ao9, co9, eo9⟩ := Kd.R_slice HO159.out; subst eo9) | ((with_reducible refine gate_callee (f := 21) rfl ?_); refine goesL_ (some 14) rfl rfl Tryz.func21 (by kernel_rfl) rfl #[.slice Ao9 t157.length co9, .string a0, .int .i64 2] rfl (zq3) ?_; (with_reducible refine (plan_Read.calls k _ _ t157 a0 2 t160 t161 t162 t163 t164 _ ?side1 ?side2 A6.out).mono ?_); (case side1 => exact zq43); (case side2 => exact (Kd.R_reads' HO159.out).2.1); rintro e w10 ⟨rfl, hb⟩; refine ⟨_, rfl, ?_⟩; have n0_ := Aside0.mk (Kd.R_below (zq44) hb); have n1_ := Aside0.mk (below_step (zq1) hb); clear HO159; clear HB; have HO159 := n0_; have HB := n1_; clear n0_ n1_; (try clear hb); (try clear hb2); (try clear hk); (try clear hi)) | ((with_reducible refine gate_dst (N := 9) rfl ?_); refine box_event ?hg (N := 9) ?hd (cs := #[.int .i64 0, .int .i64 0, .int .i64 0, .int .i64 0]) (t := 44) ?hr ?_; (case hd => rfl); (case hg => rfl); (case hr => exact zq0); intro gb165 hg w11 hbox hb; have n0_ := Aside0.mk (Kd.R_below (zq44) hb); have n1_ := Aside0.mk (below_step (zq1) hb); have n2_ := Aside0.mk (hbox); have n3_ := Aside0.mk ((zq2 : w.heap.size ≤ gb165)); have n4_ := Aside0.mk ((zq2 : w.heap.size ≤ gb165)); clear HO159; clear HB; have HO159 := n0_; have HB := n1_; have BK165 := n2_; have GW165 := n3_; have GE165 := n4_; clear n0_ n1_ n2_ n3_ n4_; clear hb hbox hg; have hcz12_0 : w11.cell? ⟨gb165, 0, none⟩ = some (.int .i64 0) := (blk_cell BK165.out 0).trans rfl; have hcz12_1 : w11.cell? ⟨gb165, 1, none⟩ = some (.int .i64 0) := (blk_cell BK165.out 1).trans rfl; have hcz12_2 : w11.cell? ⟨gb165, 2, none⟩ = some (.int .i64 0) := (blk_cell BK165.out 2).trans rfl; have hcz12_3 : w11.cell? ⟨gb165, 3, none⟩ = some (.int .i64 0) := (blk_cell BK165.out 3).trans rfl; have hfz12_0 := blk_frozen BK165.out 0; have hfz12_1 := blk_frozen BK165.out 1; have hfz12_2 := blk_frozen BK165.out 2; have hfz12_3 := blk_frozen BK165.out 3))
  go_ret
  exact ⟨by first | rfl | (simp [errW_none, errW_some] <;> rfl) | (simp [*, errW_none, errW_some] <;> rfl), by repeat (first | (with_reducible first | exact HB.out | apply below_alloc | apply pw_below_drewN | apply below_drew1 | refine below_set ?_ GE165.out) | exact HB.out)⟩
 ·rw [if_neg c7] at H
  have c7b0 : (t164 == 0) = false := beq_eq_false_iff_ne.mpr c7
  have c7b1 : (t164 != 0) = true := bne_iff_ne.mpr c7
  obtain rfl := Option.some.inj H
  go_enter Tryz.func31, Tryz.ntmps31
  go_wp2_with (first | ((with_reducible refine gate_callee (f := 30) rfl ?_); refine goesL_ (some 12) rfl rfl Tryz.func30 (by kernel_rfl) rfl #[] rfl (zq3) ?_; (with_reducible refine (dialtonelaw12_example.calls  t157 _ A5.out).mono ?_); rintro e w13 ⟨v158, rfl, ho0, hb⟩; refine ⟨_, rfl, ?_⟩; have n0_ := Aside0.mk (Kd.R_lower ho0 (below_size (zq1))); have n1_ := Aside0.mk (below_step (zq1) hb); clear HB; have HO159 := n0_; have HB := n1_; clear n0_ n1_; (try clear hb); (try clear hb2); (try clear hk); (try clear hi); (try clear ho0); obtain ⟨Ao14, co14, eo14⟩ := Kd.R_slice HO159.out; subst eo14) | ((with_reducible refine gate_callee (f := 21) rfl ?_); refine goesL_ (some 14) rfl rfl Tryz.func21 (by kernel_rfl) rfl #[.slice Ao14 t157.length co14, .string a0, .int .i64 2] rfl (zq3) ?_; (with_reducible refine (plan_Read.calls k _ _ t157 a0 2 t160 t161 t162 t163 t164 _ ?side1 ?side2 A6.out).mono ?_); (case side1 => exact zq43); (case side2 => exact (Kd.R_reads' HO159.out).2.1); rintro e w15 ⟨rfl, hb⟩; refine ⟨_, rfl, ?_⟩; have n0_ := Aside0.mk (Kd.R_below (zq44) hb); have n1_ := Aside0.mk (below_step (zq1) hb); clear HO159; clear HB; have HO159 := n0_; have HB := n1_; clear n0_ n1_; (try clear hb); (try clear hb2); (try clear hk); (try clear hi)) | ((with_reducible refine gate_dst (N := 9) rfl ?_); refine box_event ?hg (N := 9) ?hd (cs := #[.int .i64 0, .int .i64 0, .int .i64 0, .int .i64 0]) (t := 44) ?hr ?_; (case hd => rfl); (case hg => rfl); (case hr => exact zq0); intro gb165 hg w16 hbox hb; have n0_ := Aside0.mk (Kd.R_below (zq44) hb); have n1_ := Aside0.mk (below_step (zq1) hb); have n2_ := Aside0.mk (hbox); have n3_ := Aside0.mk ((zq2 : w.heap.size ≤ gb165)); have n4_ := Aside0.mk ((zq2 : w.heap.size ≤ gb165)); clear HO159; clear HB; have HO159 := n0_; have HB := n1_; have BK165 := n2_; have GW165 := n3_; have GE165 := n4_; clear n0_ n1_ n2_ n3_ n4_; clear hb hbox hg; have hcz17_0 : w16.cell? ⟨gb165, 0, none⟩ = some (.int .i64 0) := (blk_cell BK165.out 0).trans rfl; have hcz17_1 : w16.cell? ⟨gb165, 1, none⟩ = some (.int .i64 0) := (blk_cell BK165.out 1).trans rfl; have hcz17_2 : w16.cell? ⟨gb165, 2, none⟩ = some (.int .i64 0) := (blk_cell BK165.out 2).trans rfl; have hcz17_3 : w16.cell? ⟨gb165, 3, none⟩ = some (.int .i64 0) := (blk_cell BK165.out 3).trans rfl; have hfz17_0 := blk_frozen BK165.out 0; have hfz17_1 := blk_frozen BK165.out 1; have hfz17_2 := blk_frozen BK165.out 2; have hfz17_3 := blk_frozen BK165.out 3))
  go_ret
  exact ⟨by first | rfl | (simp [errW_none, errW_some] <;> rfl) | (simp [*, errW_none, errW_some] <;> rfl), by repeat (first | (with_reducible first | exact HB.out | apply below_alloc | apply pw_below_drewN | apply below_drew1 | refine below_set ?_ GE165.out) | exact HB.out)⟩
def dialtonelaw12_kind.f (k : Nat) (a0 : ByteArray) (a1 : Int) : Option (Int) := (dialtonelaw12_example.f).bind fun t166 => ((plan_Read.f k t166 a0 a1).bind fun bt169 => (if bt169.2.2.2.2 = 0 then (some bt169.1) else (some (-1))))
theorem dialtonelaw12_kind.mono : ∀ a0 a1 k, LeO (dialtonelaw12_kind.f k a0 a1) (dialtonelaw12_kind.f (k + 1) a0 a1) := by
 intro a0 a1 k
 unfold dialtonelaw12_kind.f
 repeat' first
  | (with_reducible exact plan_Read.mono _ _ _ _)
  | (with_reducible exact LeO.refl _)
  | (with_reducible exact LeO.none _)
  | (with_reducible refine LeO.ite ?_ ?_)
  | (with_reducible refine LeO.bind ?_ (fun _ => ?_))
  | exact plan_Read.mono _ _ _ _
  | exact LeO.none _
  | refine LeO.ite ?_ ?_
  | refine LeO.bind ?_ (fun _ => ?_)
set_option maxHeartbeats 8000000 in
set_option maxRecDepth 100000 in
theorem dialtonelaw12_kind.calls (k : Nat) (a0 : ByteArray) (a1 : Int) (r : Int) (w : World) (h : dialtonelaw12_kind.f k a0 a1 = some r) :
 Calls Tryz.prog 32 #[.string a0, .int .i64 a1] w fun e w' => e = .returned (.int .i64 r) ∧ Below w.heap.size w w' := by
 have hu44 := Tryz.underlying44
 have HB := Aside0.mk (Below.refl w.heap.size w)
 have H : ((dialtonelaw12_example.f).bind fun t166 => ((plan_Read.f k t166 a0 a1).bind fun bt169 => (if bt169.2.2.2.2 = 0 then (some bt169.1) else (some (-1))))) = some r := h
 clear h
 replace H := Option.bind_eq_some_iff.mp H
 obtain ⟨t166, A30, H⟩ := H
 try dsimp only at H
 have A3 := Aside0.mk A30
 clear A30
 replace H := Option.bind_eq_some_iff.mp H
 obtain ⟨⟨t169, t170, t171, t172, t173⟩, A40, H⟩ := H
 try dsimp only at H
 have A4 := Aside0.mk A40
 clear A40
 by_cases c5 : t173 = 0
 ·rw [if_pos c5] at H
  have c5b0 : (t173 == 0) = true := beq_iff_eq.mpr c5
  have c5b1 : (t173 != 0) = false := bne_eq_false_iff_eq.mpr c5
  clear c5
  obtain rfl := Option.some.inj H
  go_enter Tryz.func32, Tryz.ntmps32
  go_wp2_with (first | ((with_reducible refine gate_callee (f := 30) rfl ?_); refine goesL_ (some 8) rfl rfl Tryz.func30 (by kernel_rfl) rfl #[] rfl (zq3) ?_; (with_reducible refine (dialtonelaw12_example.calls  t166 _ A3.out).mono ?_); rintro e w6 ⟨v167, rfl, ho0, hb⟩; refine ⟨_, rfl, ?_⟩; have n0_ := Aside0.mk (Kd.R_lower ho0 (below_size (zq1))); have n1_ := Aside0.mk (below_step (zq1) hb); clear HB; have HO168 := n0_; have HB := n1_; clear n0_ n1_; (try clear hb); (try clear hb2); (try clear hk); (try clear hi); (try clear ho0); obtain ⟨Ao7, co7, eo7⟩ := Kd.R_slice HO168.out; subst eo7) | ((with_reducible refine gate_callee (f := 21) rfl ?_); refine goesL_ (some 11) rfl rfl Tryz.func21 (by kernel_rfl) rfl #[.slice Ao7 t166.length co7, .string a0, .int .i64 a1] rfl (zq3) ?_; (with_reducible refine (plan_Read.calls k _ _ t166 a0 a1 t169 t170 t171 t172 t173 _ ?side1 ?side2 A4.out).mono ?_); (case side1 => exact zq45); (case side2 => exact (Kd.R_reads' HO168.out).2.1); rintro e w8 ⟨rfl, hb⟩; refine ⟨_, rfl, ?_⟩; have n0_ := Aside0.mk (Kd.R_below (zq46) hb); have n1_ := Aside0.mk (below_step (zq1) hb); clear HO168; clear HB; have HO168 := n0_; have HB := n1_; clear n0_ n1_; (try clear hb); (try clear hb2); (try clear hk); (try clear hi)) | ((with_reducible refine gate_dst (N := 5) rfl ?_); refine box_event ?hg (N := 5) ?hd (cs := #[.int .i64 0, .int .i64 0, .int .i64 0, .int .i64 0]) (t := 44) ?hr ?_; (case hd => rfl); (case hg => rfl); (case hr => exact zq0); intro gb174 hg w9 hbox hb; have n0_ := Aside0.mk (Kd.R_below (zq46) hb); have n1_ := Aside0.mk (below_step (zq1) hb); have n2_ := Aside0.mk (hbox); have n3_ := Aside0.mk ((zq2 : w.heap.size ≤ gb174)); have n4_ := Aside0.mk ((zq2 : w.heap.size ≤ gb174)); clear HO168; clear HB; have HO168 := n0_; have HB := n1_; have BK174 := n2_; have GW174 := n3_; have GE174 := n4_; clear n0_ n1_ n2_ n3_ n4_; clear hb hbox hg; have hcz10_0 : w9.cell? ⟨gb174, 0, none⟩ = some (.int .i64 0) := (blk_cell BK174.out 0).trans rfl; have hcz10_1 : w9.cell? ⟨gb174, 1, none⟩ = some (.int .i64 0) := (blk_cell BK174.out 1).trans rfl; have hcz10_2 : w9.cell? ⟨gb174, 2, none⟩ = some (.int .i64 0) := (blk_cell BK174.out 2).trans rfl; have hcz10_3 : w9.cell? ⟨gb174, 3, none⟩ = some (.int .i64 0) := (blk_cell BK174.out 3).trans rfl; have hfz10_0 := blk_frozen BK174.out 0; have hfz10_1 := blk_frozen BK174.out 1; have hfz10_2 := blk_frozen BK174.out 2; have hfz10_3 := blk_frozen BK174.out 3))
  go_ret
  exact ⟨by first | rfl | (simp [errW_none, errW_some] <;> rfl) | (simp [*, errW_none, errW_some] <;> rfl), by repeat (first | (with_reducible first | exact HB.out | apply below_alloc | apply pw_below_drewN | apply below_drew1 | refine below_set ?_ GE174.out) | exact HB.out)⟩
 ·rw [if_neg c5] at H
  have c5b0 : (t173 == 0) = false := beq_eq_false_iff_ne.mpr c5
  have c5b1 : (t173 != 0) = true := bne_iff_ne.mpr c5
  obtain rfl := Option.some.inj H
  go_enter Tryz.func32, Tryz.ntmps32
  go_wp2_with (first | ((with_reducible refine gate_callee (f := 30) rfl ?_); refine goesL_ (some 8) rfl rfl Tryz.func30 (by kernel_rfl) rfl #[] rfl (zq3) ?_; (with_reducible refine (dialtonelaw12_example.calls  t166 _ A3.out).mono ?_); rintro e w11 ⟨v167, rfl, ho0, hb⟩; refine ⟨_, rfl, ?_⟩; have n0_ := Aside0.mk (Kd.R_lower ho0 (below_size (zq1))); have n1_ := Aside0.mk (below_step (zq1) hb); clear HB; have HO168 := n0_; have HB := n1_; clear n0_ n1_; (try clear hb); (try clear hb2); (try clear hk); (try clear hi); (try clear ho0); obtain ⟨Ao12, co12, eo12⟩ := Kd.R_slice HO168.out; subst eo12) | ((with_reducible refine gate_callee (f := 21) rfl ?_); refine goesL_ (some 11) rfl rfl Tryz.func21 (by kernel_rfl) rfl #[.slice Ao12 t166.length co12, .string a0, .int .i64 a1] rfl (zq3) ?_; (with_reducible refine (plan_Read.calls k _ _ t166 a0 a1 t169 t170 t171 t172 t173 _ ?side1 ?side2 A4.out).mono ?_); (case side1 => exact zq45); (case side2 => exact (Kd.R_reads' HO168.out).2.1); rintro e w13 ⟨rfl, hb⟩; refine ⟨_, rfl, ?_⟩; have n0_ := Aside0.mk (Kd.R_below (zq46) hb); have n1_ := Aside0.mk (below_step (zq1) hb); clear HO168; clear HB; have HO168 := n0_; have HB := n1_; clear n0_ n1_; (try clear hb); (try clear hb2); (try clear hk); (try clear hi)) | ((with_reducible refine gate_dst (N := 5) rfl ?_); refine box_event ?hg (N := 5) ?hd (cs := #[.int .i64 0, .int .i64 0, .int .i64 0, .int .i64 0]) (t := 44) ?hr ?_; (case hd => rfl); (case hg => rfl); (case hr => exact zq0); intro gb174 hg w14 hbox hb; have n0_ := Aside0.mk (Kd.R_below (zq46) hb); have n1_ := Aside0.mk (below_step (zq1) hb); have n2_ := Aside0.mk (hbox); have n3_ := Aside0.mk ((zq2 : w.heap.size ≤ gb174)); have n4_ := Aside0.mk ((zq2 : w.heap.size ≤ gb174)); clear HO168; clear HB; have HO168 := n0_; have HB := n1_; have BK174 := n2_; have GW174 := n3_; have GE174 := n4_; clear n0_ n1_ n2_ n3_ n4_; clear hb hbox hg; have hcz15_0 : w14.cell? ⟨gb174, 0, none⟩ = some (.int .i64 0) := (blk_cell BK174.out 0).trans rfl; have hcz15_1 : w14.cell? ⟨gb174, 1, none⟩ = some (.int .i64 0) := (blk_cell BK174.out 1).trans rfl; have hcz15_2 : w14.cell? ⟨gb174, 2, none⟩ = some (.int .i64 0) := (blk_cell BK174.out 2).trans rfl; have hcz15_3 : w14.cell? ⟨gb174, 3, none⟩ = some (.int .i64 0) := (blk_cell BK174.out 3).trans rfl; have hfz15_0 := blk_frozen BK174.out 0; have hfz15_1 := blk_frozen BK174.out 1; have hfz15_2 := blk_frozen BK174.out 2; have hfz15_3 := blk_frozen BK174.out 3))
  go_ret
  exact ⟨by first | rfl | (simp [errW_none, errW_some] <;> rfl) | (simp [*, errW_none, errW_some] <;> rfl), by repeat (first | (with_reducible first | exact HB.out | apply below_alloc | apply pw_below_drewN | apply below_drew1 | refine below_set ?_ GE174.out) | exact HB.out)⟩
end Go.Proofs.YtlmfoblgheepoaaGreatDoor.Pl
end
section
open Go.Proofs.YtlmfoblgheepoaaGreatDoor.Z
namespace Go.Proofs.YtlmfoblgheepoaaGreatDoor.Pl
open Go.RowKit Go.Proofs.YtlmfoblgheepoaaGreatDoorW.PrintWords Go.Proofs.YtlmfoblgheepoaaGreatDoorW.PrintLast Go.Proofs.YtlmfoblgheepoaaGreatDoorW.PrintMore
attribute [local go_sem] max2_int min2_int max_two min_two max_three min_three max_four min_four
set_option linter.unusedVariables false
set_option linter.unusedSimpArgs false
attribute [local go_sem high] eqA40
mutual
def dialtonelaw12_sane.j0 : Nat → List (S29) → ByteArray → ByteArray → Bool → Int → Int → Int → Int → Int → Int → Int → Int → Option (Bool)
 | 0, _, _, _, _, _, _, _, _, _, _, _, _ => none
 | k + 1, x1, x2, x4, x80, x188000, x188001, x192000, x192001, x196000, x196001, x200000, x200001 => if x80 = true then (none) else (if x2.toList = ([50, 49, 50, 51, 52] : List UInt8) then (if x4.toList = ([56, 50, 57, 57, 49, 50, 51, 52] : List UInt8) then ((dialtonelaw12_reads.f k (⟨#[50, 49, 50, 51, 52]⟩ : ByteArray) 82001234 0 5).bind fun t200 => (if t200 = true then ((dialtonelaw12_reads.f k (⟨#[56, 50, 48, 48, 49, 50, 51, 52]⟩ : ByteArray) 82001234 0 8).bind fun t201 => (if t201 = true then ((dialtonelaw12_reads.f k (⟨#[50, 49, 50, 51, 52, 53]⟩ : ByteArray) 82001234 0 5).bind fun t202 => (if t202 = true then ((dialtonelaw12_reads.f k (⟨#[51, 49, 48, 48, 55]⟩ : ByteArray) 90000007 1 5).bind fun t203 => (dialtonelaw12_sane.j1 k x1 t203 x188000 x188001 x192000 x192001 x196000 x196001 x200000 x200001)) else (none))) else (none))) else (none))) else (none)) else (none))
def dialtonelaw12_sane.j1 : Nat → List (S29) → Bool → Int → Int → Int → Int → Int → Int → Int → Int → Option (Bool)
 | 0, _, _, _, _, _, _, _, _, _, _ => none
 | k + 1, x1, x16, x188000, x188001, x192000, x192001, x196000, x196001, x200000, x200001 => (dialtonelaw12_kind.f k (⟨#[56, 50, 48, 48, 49, 50, 51]⟩ : ByteArray) 2).bind fun t204 => (if t204 = 1 then ((dialtonelaw12_kind.f k (⟨#[51]⟩ : ByteArray) 2).bind fun t205 => (if t205 = 1 then ((dialtonelaw12_kind.f k (⟨#[53]⟩ : ByteArray) 2).bind fun t206 => (if t206 = 0 then ((dialtonelaw12_kind.f k (⟨#[]⟩ : ByteArray) 2).bind fun t207 => (if t207 = 1 then ((dialtonelaw12_kind.f k (⟨#[50, 49, 50, 51, 52]⟩ : ByteArray) 3).bind fun t208 => (if t208 = 0 then ((dialtonelaw12_kind.f k (⟨#[56, 50, 48, 48, 49, 50, 51, 52]⟩ : ByteArray) 1).bind fun t209 => (if t209 = 0 then ((dialtonelaw12_kind.f k (⟨#[50, 120]⟩ : ByteArray) 2).bind fun t210 => (dialtonelaw12_sane.j2 k x1 x16 (t210 == (-1)) x188000 x188001 x192000 x192001 x196000 x196001 x200000 x200001)) else (none))) else (none))) else (none))) else (none))) else (none))) else (none))
def dialtonelaw12_sane.j2 : Nat → List (S29) → Bool → Bool → Int → Int → Int → Int → Int → Int → Int → Int → Option (Bool)
 | 0, _, _, _, _, _, _, _, _, _, _, _ => none
 | k + 1, x1, x16, x17, x188000, x188001, x192000, x192001, x196000, x196001, x200000, x200001 => if (x188000 == 82000000 && (x188001 == 82010000)) = true then (if (x192000 == 90000000 && (x192001 == 90001000)) = true then (if (x196000 == 82000000 && (x196001 == 83000000)) = true then (dialtonelaw12_sane.j3 k x1 x16 x17 (x200000 == 90000000 && (x200001 == 100000000))) else (none)) else (none)) else (none)
def dialtonelaw12_sane.j3 : Nat → List (S29) → Bool → Bool → Bool → Option (Bool)
 | 0, _, _, _, _ => none
 | k + 1, x1, x16, x17, x18 => if x16 = true then (if x17 = true then (if x18 = true then ((plan_Same.f k x1 (⟨#[50, 49, 50, 51, 52]⟩ : ByteArray) (⟨#[56, 50, 48, 48, 49, 50, 51, 52]⟩ : ByteArray)).bind fun t211 => (if t211 = true then ((plan_Same.f k x1 (⟨#[50, 49, 50, 51, 52]⟩ : ByteArray) (⟨#[56, 50, 48, 48, 49, 50, 51, 53]⟩ : ByteArray)).bind fun t212 => (if t212 = true then (none) else ((plan_Valid.f k x1).bind fun t213 => (if t213 = true then ((plan_Valid.f k (([(⟨(⟨#[50]⟩ : ByteArray), (⟨#[50, 49]⟩ : ByteArray), 4⟩ : S29)] : List (S29)))).bind fun t217 => (some (!t217))) else (none))))) else (none))) else (none)) else (none)) else (none)
end
def dialtonelaw12_sane.f (k : Nat)  : Option (Bool) := (dialtonelaw12_example.f).bind fun t175 => ((plan_Write.f k t175 82001234 1).bind fun bt178 => ((plan_Write.f k t175 82991234 2).bind fun bt180 => ((plan_Write.f k t175 82991234 1).bind fun bt182 => ((plan_Range.f k t175 0 1).bind fun bt184 => ((plan_Range.f k t175 1 1).bind fun bt188 => ((plan_Range.f k t175 0 3).bind fun bt192 => ((plan_Range.f k t175 1 3).bind fun bt196 => (if bt178.2 = 0 then (if bt180.2 = 0 then (if bt182.2 = 120 then (if bt184.2.2 = 0 then (if bt188.2.2 = 0 then (if bt192.2.2 = 0 then (dialtonelaw12_sane.j0 k t175 bt178.1 bt180.1 (bt196.2.2 != 0) bt184.1 bt184.2.1 bt188.1 bt188.2.1 bt192.1 bt192.2.1 bt196.1 bt196.2.1) else (none)) else (none)) else (none)) else (none)) else (none)) else (none)))))))))
theorem dialtonelaw12_sane.mono_l : ∀ k, (∀ y0 y1 y2 y3 y4 y5 y6 y7 y8 y9 y10 y11, LeO (dialtonelaw12_sane.j0 k y0 y1 y2 y3 y4 y5 y6 y7 y8 y9 y10 y11) (dialtonelaw12_sane.j0 (k + 1) y0 y1 y2 y3 y4 y5 y6 y7 y8 y9 y10 y11)) ∧ (∀ y0 y1 y2 y3 y4 y5 y6 y7 y8 y9, LeO (dialtonelaw12_sane.j1 k y0 y1 y2 y3 y4 y5 y6 y7 y8 y9) (dialtonelaw12_sane.j1 (k + 1) y0 y1 y2 y3 y4 y5 y6 y7 y8 y9)) ∧ (∀ y0 y1 y2 y3 y4 y5 y6 y7 y8 y9 y10, LeO (dialtonelaw12_sane.j2 k y0 y1 y2 y3 y4 y5 y6 y7 y8 y9 y10) (dialtonelaw12_sane.j2 (k + 1) y0 y1 y2 y3 y4 y5 y6 y7 y8 y9 y10)) ∧ (∀ y0 y1 y2 y3, LeO (dialtonelaw12_sane.j3 k y0 y1 y2 y3) (dialtonelaw12_sane.j3 (k + 1) y0 y1 y2 y3))
 | 0 => ⟨fun _ _ _ _ _ _ _ _ _ _ _ _ r h => by simp [dialtonelaw12_sane.j0] at h, fun _ _ _ _ _ _ _ _ _ _ r h => by simp [dialtonelaw12_sane.j1] at h, fun _ _ _ _ _ _ _ _ _ _ _ r h => by simp [dialtonelaw12_sane.j2] at h, fun _ _ _ _ r h => by simp [dialtonelaw12_sane.j3] at h⟩
 | k + 1 => by
  obtain ⟨ih0, ih1, ih2, ih3⟩ := dialtonelaw12_sane.mono_l k
  refine ⟨?_, ?_, ?_, ?_⟩
  ·intro y0 y1 y2 y3 y4 y5 y6 y7 y8 y9 y10 y11
   unfold dialtonelaw12_sane.j0
   repeat' first
   | (with_reducible exact ih0 _ _ _ _ _ _ _ _ _ _ _ _)
   | (with_reducible exact ih1 _ _ _ _ _ _ _ _ _ _)
   | (with_reducible exact ih2 _ _ _ _ _ _ _ _ _ _ _)
   | (with_reducible exact ih3 _ _ _ _)
   | (with_reducible exact dialtonelaw12_kind.mono _ _ _)
   | (with_reducible exact dialtonelaw12_reads.mono _ _ _ _ _)
   | (with_reducible exact plan_Range.mono _ _ _ _)
   | (with_reducible exact plan_Same.mono _ _ _ _)
   | (with_reducible exact plan_Valid.mono _ _)
   | (with_reducible exact plan_Write.mono _ _ _ _)
   | (with_reducible exact LeO.refl _)
   | (with_reducible exact LeO.none _)
   | (with_reducible refine LeO.ite ?_ ?_)
   | (with_reducible refine LeO.bind ?_ (fun _ => ?_))
   | exact ih0 _ _ _ _ _ _ _ _ _ _ _ _
   | exact ih1 _ _ _ _ _ _ _ _ _ _
   | exact ih2 _ _ _ _ _ _ _ _ _ _ _
   | exact ih3 _ _ _ _
   | exact dialtonelaw12_kind.mono _ _ _
   | exact dialtonelaw12_reads.mono _ _ _ _ _
   | exact plan_Range.mono _ _ _ _
   | exact plan_Same.mono _ _ _ _
   | exact plan_Valid.mono _ _
   | exact plan_Write.mono _ _ _ _
   | exact LeO.none _
   | refine LeO.ite ?_ ?_
   | refine LeO.bind ?_ (fun _ => ?_)
  ·intro y0 y1 y2 y3 y4 y5 y6 y7 y8 y9
   unfold dialtonelaw12_sane.j1
   repeat' first
   | (with_reducible exact ih0 _ _ _ _ _ _ _ _ _ _ _ _)
   | (with_reducible exact ih1 _ _ _ _ _ _ _ _ _ _)
   | (with_reducible exact ih2 _ _ _ _ _ _ _ _ _ _ _)
   | (with_reducible exact ih3 _ _ _ _)
   | (with_reducible exact dialtonelaw12_kind.mono _ _ _)
   | (with_reducible exact dialtonelaw12_reads.mono _ _ _ _ _)
   | (with_reducible exact plan_Range.mono _ _ _ _)
   | (with_reducible exact plan_Same.mono _ _ _ _)
   | (with_reducible exact plan_Valid.mono _ _)
   | (with_reducible exact plan_Write.mono _ _ _ _)
   | (with_reducible exact LeO.refl _)
   | (with_reducible exact LeO.none _)
   | (with_reducible refine LeO.ite ?_ ?_)
   | (with_reducible refine LeO.bind ?_ (fun _ => ?_))
   | exact ih0 _ _ _ _ _ _ _ _ _ _ _ _
   | exact ih1 _ _ _ _ _ _ _ _ _ _
   | exact ih2 _ _ _ _ _ _ _ _ _ _ _
   | exact ih3 _ _ _ _
   | exact dialtonelaw12_kind.mono _ _ _
   | exact dialtonelaw12_reads.mono _ _ _ _ _
   | exact plan_Range.mono _ _ _ _
   | exact plan_Same.mono _ _ _ _
   | exact plan_Valid.mono _ _
   | exact plan_Write.mono _ _ _ _
   | exact LeO.none _
   | refine LeO.ite ?_ ?_
   | refine LeO.bind ?_ (fun _ => ?_)
  ·intro y0 y1 y2 y3 y4 y5 y6 y7 y8 y9 y10
   unfold dialtonelaw12_sane.j2
   repeat' first
   | (with_reducible exact ih0 _ _ _ _ _ _ _ _ _ _ _ _)
   | (with_reducible exact ih1 _ _ _ _ _ _ _ _ _ _)
   | (with_reducible exact ih2 _ _ _ _ _ _ _ _ _ _ _)
   | (with_reducible exact ih3 _ _ _ _)
   | (with_reducible exact dialtonelaw12_kind.mono _ _ _)
   | (with_reducible exact dialtonelaw12_reads.mono _ _ _ _ _)
   | (with_reducible exact plan_Range.mono _ _ _ _)
   | (with_reducible exact plan_Same.mono _ _ _ _)
   | (with_reducible exact plan_Valid.mono _ _)
   | (with_reducible exact plan_Write.mono _ _ _ _)
   | (with_reducible exact LeO.refl _)
   | (with_reducible exact LeO.none _)
   | (with_reducible refine LeO.ite ?_ ?_)
   | (with_reducible refine LeO.bind ?_ (fun _ => ?_))
   | exact ih0 _ _ _ _ _ _ _ _ _ _ _ _
   | exact ih1 _ _ _ _ _ _ _ _ _ _
   | exact ih2 _ _ _ _ _ _ _ _ _ _ _
   | exact ih3 _ _ _ _
   | exact dialtonelaw12_kind.mono _ _ _
   | exact dialtonelaw12_reads.mono _ _ _ _ _
   | exact plan_Range.mono _ _ _ _
   | exact plan_Same.mono _ _ _ _
   | exact plan_Valid.mono _ _
   | exact plan_Write.mono _ _ _ _
   | exact LeO.none _
   | refine LeO.ite ?_ ?_
   | refine LeO.bind ?_ (fun _ => ?_)
  ·intro y0 y1 y2 y3
   unfold dialtonelaw12_sane.j3
   repeat' first
   | (with_reducible exact ih0 _ _ _ _ _ _ _ _ _ _ _ _)
   | (with_reducible exact ih1 _ _ _ _ _ _ _ _ _ _)
   | (with_reducible exact ih2 _ _ _ _ _ _ _ _ _ _ _)
   | (with_reducible exact ih3 _ _ _ _)
   | (with_reducible exact dialtonelaw12_kind.mono _ _ _)
   | (with_reducible exact dialtonelaw12_reads.mono _ _ _ _ _)
   | (with_reducible exact plan_Range.mono _ _ _ _)
   | (with_reducible exact plan_Same.mono _ _ _ _)
   | (with_reducible exact plan_Valid.mono _ _)
   | (with_reducible exact plan_Write.mono _ _ _ _)
   | (with_reducible exact LeO.refl _)
   | (with_reducible exact LeO.none _)
   | (with_reducible refine LeO.ite ?_ ?_)
   | (with_reducible refine LeO.bind ?_ (fun _ => ?_))
   | exact ih0 _ _ _ _ _ _ _ _ _ _ _ _
   | exact ih1 _ _ _ _ _ _ _ _ _ _
   | exact ih2 _ _ _ _ _ _ _ _ _ _ _
   | exact ih3 _ _ _ _
   | exact dialtonelaw12_kind.mono _ _ _
   | exact dialtonelaw12_reads.mono _ _ _ _ _
   | exact plan_Range.mono _ _ _ _
   | exact plan_Same.mono _ _ _ _
   | exact plan_Valid.mono _ _
   | exact plan_Write.mono _ _ _ _
   | exact LeO.none _
   | refine LeO.ite ?_ ?_
   | refine LeO.bind ?_ (fun _ => ?_)
theorem dialtonelaw12_sane.mono : ∀ k, LeO (dialtonelaw12_sane.f k ) (dialtonelaw12_sane.f (k + 1) ) := by
 intro  k
 obtain ⟨ih0, ih1, ih2, ih3⟩ := dialtonelaw12_sane.mono_l k
 unfold dialtonelaw12_sane.f
 repeat' first
  | (with_reducible exact ih0 _ _ _ _ _ _ _ _ _ _ _ _)
  | (with_reducible exact ih1 _ _ _ _ _ _ _ _ _ _)
  | (with_reducible exact ih2 _ _ _ _ _ _ _ _ _ _ _)
  | (with_reducible exact ih3 _ _ _ _)
  | (with_reducible exact dialtonelaw12_kind.mono _ _ _)
  | (with_reducible exact dialtonelaw12_reads.mono _ _ _ _ _)
  | (with_reducible exact plan_Range.mono _ _ _ _)
  | (with_reducible exact plan_Same.mono _ _ _ _)
  | (with_reducible exact plan_Valid.mono _ _)
  | (with_reducible exact plan_Write.mono _ _ _ _)
  | (with_reducible exact LeO.refl _)
  | (with_reducible exact LeO.none _)
  | (with_reducible refine LeO.ite ?_ ?_)
  | (with_reducible refine LeO.bind ?_ (fun _ => ?_))
  | exact ih0 _ _ _ _ _ _ _ _ _ _ _ _
  | exact ih1 _ _ _ _ _ _ _ _ _ _
  | exact ih2 _ _ _ _ _ _ _ _ _ _ _
  | exact ih3 _ _ _ _
  | exact dialtonelaw12_kind.mono _ _ _
  | exact dialtonelaw12_reads.mono _ _ _ _ _
  | exact plan_Range.mono _ _ _ _
  | exact plan_Same.mono _ _ _ _
  | exact plan_Valid.mono _ _
  | exact plan_Write.mono _ _ _ _
  | exact LeO.none _
  | refine LeO.ite ?_ ?_
  | refine LeO.bind ?_ (fun _ => ?_)
set_option maxHeartbeats 8000000 in
set_option maxRecDepth 100000 in
theorem dialtonelaw12_sane.calls (k : Nat)  (r : Bool) (w : World) (hG : Glb w) (h : dialtonelaw12_sane.f k  = some r) :
 Calls Tryz.prog 11 #[] w fun e w' => e = .returned (.bool r) ∧ Below w.heap.size w w' := by
 have HGLB := Aside0.mk hG
 clear hG
 have hu40 := Tryz.underlying40
 have hu29 := Tryz.underlying29
 have HB := Aside0.mk (Below.refl w.heap.size w)
 have H : ((dialtonelaw12_example.f).bind fun t175 => ((plan_Write.f k t175 82001234 1).bind fun bt178 => ((plan_Write.f k t175 82991234 2).bind fun bt180 => ((plan_Write.f k t175 82991234 1).bind fun bt182 => ((plan_Range.f k t175 0 1).bind fun bt184 => ((plan_Range.f k t175 1 1).bind fun bt188 => ((plan_Range.f k t175 0 3).bind fun bt192 => ((plan_Range.f k t175 1 3).bind fun bt196 => (if bt178.2 = 0 then (if bt180.2 = 0 then (if bt182.2 = 120 then (if bt184.2.2 = 0 then (if bt188.2.2 = 0 then (if bt192.2.2 = 0 then (dialtonelaw12_sane.j0 k t175 bt178.1 bt180.1 (bt196.2.2 != 0) bt184.1 bt184.2.1 bt188.1 bt188.2.1 bt192.1 bt192.2.1 bt196.1 bt196.2.1) else (none)) else (none)) else (none)) else (none)) else (none)) else (none)))))))))) = some r := h
 clear h
 replace H := Option.bind_eq_some_iff.mp H
 obtain ⟨t175, A10, H⟩ := H
 try dsimp only at H
 have A1 := Aside0.mk A10
 clear A10
 replace H := Option.bind_eq_some_iff.mp H
 obtain ⟨⟨t178, t179⟩, A20, H⟩ := H
 try dsimp only at H
 have A2 := Aside0.mk A20
 clear A20
 replace H := Option.bind_eq_some_iff.mp H
 obtain ⟨⟨t180, t181⟩, A30, H⟩ := H
 try dsimp only at H
 have A3 := Aside0.mk A30
 clear A30
 replace H := Option.bind_eq_some_iff.mp H
 obtain ⟨⟨t182, t183⟩, A40, H⟩ := H
 try dsimp only at H
 have A4 := Aside0.mk A40
 clear A40
 replace H := Option.bind_eq_some_iff.mp H
 obtain ⟨⟨t184, t185, t186⟩, A50, H⟩ := H
 try dsimp only at H
 have A5 := Aside0.mk A50
 clear A50
 replace H := Option.bind_eq_some_iff.mp H
 obtain ⟨⟨t188, t189, t190⟩, A60, H⟩ := H
 try dsimp only at H
 have A6 := Aside0.mk A60
 clear A60
 replace H := Option.bind_eq_some_iff.mp H
 obtain ⟨⟨t192, t193, t194⟩, A70, H⟩ := H
 try dsimp only at H
 have A7 := Aside0.mk A70
 clear A70
 replace H := Option.bind_eq_some_iff.mp H
 obtain ⟨⟨t196, t197, t198⟩, A80, H⟩ := H
 try dsimp only at H
 have A8 := Aside0.mk A80
 clear A80
 have HC9 := Aside0.mk H
 clear H
 go_enter Tryz.func11, Tryz.ntmps11
 go_upto_region 9 with (first | ((with_reducible refine gate_callee (f := 30) rfl ?_); refine goesL_ (some 19) rfl rfl Tryz.func30 (by kernel_rfl) rfl #[] rfl (zq3) ?_; (with_reducible refine (dialtonelaw12_example.calls  t175 _ A1.out).mono ?_); rintro e w10 ⟨v176, rfl, ho0, hb⟩; refine ⟨_, rfl, ?_⟩; have n0_ := Aside0.mk (Kd.R_lower ho0 (below_size (zq1))); have n1_ := Aside0.mk (below_step (zq1) hb); clear HB; have HO177 := n0_; have HB := n1_; clear n0_ n1_; (try clear hb); (try clear hb2); (try clear hk); (try clear hi); (try clear ho0); obtain ⟨Ao11, co11, eo11⟩ := Kd.R_slice HO177.out; subst eo11) | ((with_reducible refine gate_callee (f := 17) rfl ?_); refine goesL_ (some 22) rfl rfl Tryz.func17 (by kernel_rfl) rfl #[.slice Ao11 t175.length co11, .int .i64 82001234, .int .i64 1] rfl (zq3) ?_; (with_reducible refine (plan_Write.calls k _ _ t175 82001234 1 t178 t179 _ ?side1 ?side2 ?side3 A2.out).mono ?_); (case side1 => exact zq47); (case side2 => exact zq48); (case side3 => exact zq27); rintro e w12 ⟨rfl, hb⟩; refine ⟨_, rfl, ?_⟩; have n0_ := Aside0.mk (Kd.R_below (zq49) hb); have n1_ := Aside0.mk (below_step (zq1) hb); clear HO177; clear HB; have HO177 := n0_; have HB := n1_; clear n0_ n1_; (try clear hb); (try clear hb2); (try clear hk); (try clear hi)) | ((with_reducible refine gate_callee (f := 17) rfl ?_); refine goesL_ (some 27) rfl rfl Tryz.func17 (by kernel_rfl) rfl #[.slice Ao11 t175.length co11, .int .i64 82991234, .int .i64 2] rfl (zq3) ?_; (with_reducible refine (plan_Write.calls k _ _ t175 82991234 2 t180 t181 _ ?side1 ?side2 ?side3 A3.out).mono ?_); (case side1 => exact zq47); (case side2 => exact zq48); (case side3 => exact zq27); rintro e w13 ⟨rfl, hb⟩; refine ⟨_, rfl, ?_⟩; have n0_ := Aside0.mk (Kd.R_below (zq49) hb); have n1_ := Aside0.mk (below_step (zq1) hb); clear HO177; clear HB; have HO177 := n0_; have HB := n1_; clear n0_ n1_; (try clear hb); (try clear hb2); (try clear hk); (try clear hi)) | ((with_reducible refine gate_callee (f := 17) rfl ?_); refine goesL_ (some 32) rfl rfl Tryz.func17 (by kernel_rfl) rfl #[.slice Ao11 t175.length co11, .int .i64 82991234, .int .i64 1] rfl (zq3) ?_; (with_reducible refine (plan_Write.calls k _ _ t175 82991234 1 t182 t183 _ ?side1 ?side2 ?side3 A4.out).mono ?_); (case side1 => exact zq47); (case side2 => exact zq48); (case side3 => exact zq27); rintro e w14 ⟨rfl, hb⟩; refine ⟨_, rfl, ?_⟩; have n0_ := Aside0.mk (Kd.R_below (zq49) hb); have n1_ := Aside0.mk (below_step (zq1) hb); clear HO177; clear HB; have HO177 := n0_; have HB := n1_; clear n0_ n1_; (try clear hb); (try clear hb2); (try clear hk); (try clear hi)) | ((with_reducible refine gate_callee (f := 19) rfl ?_); refine goesL_ (some 37) rfl rfl Tryz.func19 (by kernel_rfl) rfl #[.slice Ao11 t175.length co11, .int .i64 0, .int .i64 1] rfl (zq3) ?_; (with_reducible refine (plan_Range.calls k _ _ t175 0 1 t184 t185 t186 _ ?side1 ?side2 A5.out).mono ?_); (case side1 => exact zq47); (case side2 => exact zq48); rintro e w15 ⟨rfl, hb⟩; refine ⟨_, rfl, ?_⟩; have n0_ := Aside0.mk (Kd.R_below (zq49) hb); have n1_ := Aside0.mk (below_step (zq1) hb); clear HO177; clear HB; have HO177 := n0_; have HB := n1_; clear n0_ n1_; (try clear hb); (try clear hb2); (try clear hk); (try clear hi)) | ((with_reducible refine gate_dst (N := 8) rfl ?_); (try (refine gate_guard (by rfl) ?_; dsimp only)); refine box_event ?hg (N := 8) ?hd (cs := #[.int .i64 0, .int .i64 0]) (t := 40) ?hr ?_; (case hd => rfl); (case hg => rfl); (case hr => exact zq0); intro gb187 hg w16 hbox hb; have n0_ := Aside0.mk (Kd.R_below (zq49) hb); have n1_ := Aside0.mk (below_step (zq1) hb); have n2_ := Aside0.mk (hbox); have n3_ := Aside0.mk ((zq2 : w.heap.size ≤ gb187)); have n4_ := Aside0.mk ((zq2 : w.heap.size ≤ gb187)); clear HO177; clear HB; have HO177 := n0_; have HB := n1_; have BK187 := n2_; have GW187 := n3_; have GE187 := n4_; clear n0_ n1_ n2_ n3_ n4_; clear hb hbox hg; have hcz17_0 : w16.cell? ⟨gb187, 0, none⟩ = some (.int .i64 0) := (blk_cell BK187.out 0).trans rfl; have hcz17_1 : w16.cell? ⟨gb187, 1, none⟩ = some (.int .i64 0) := (blk_cell BK187.out 1).trans rfl; have hfz17_0 := blk_frozen BK187.out 0; have hfz17_1 := blk_frozen BK187.out 1) | ((with_reducible refine gate_callee (f := 19) rfl ?_); refine goesL_ (some 42) rfl rfl Tryz.func19 (by kernel_rfl) rfl #[.slice Ao11 t175.length co11, .int .i64 1, .int .i64 1] rfl (zq3) ?_; (with_reducible refine (plan_Range.calls k _ _ t175 1 1 t188 t189 t190 _ ?side1 ?side2 A6.out).mono ?_); (case side1 => refine (Kd.R_reads' (e := 29) (base := w.heap.size) (ok := fun k_ => True) (n := t175.length) (c := co11) ?_).2.2; exact (zq50)); (case side2 => exact zq48); rintro e w18 ⟨rfl, hb⟩; refine ⟨_, rfl, ?_⟩; have n0_ := Aside0.mk (Kd.R_below (zq50) hb); have n1_ := Aside0.mk (blk_below (g := gb187) (o := .cells #[.int .i64 t184, .int .i64 t185] 40 (0, 0)) (by (with_reducible repeat (first | refine blk_drewN ?_ _ | refine blk_drew ?_ | refine blk_alloc ?_ _)); refine blk_put (cs := #[.int .i64 t184, .int .i64 0]) ?_ 1 _ rfl; (with_reducible repeat (first | refine blk_drewN ?_ _ | refine blk_drew ?_ | refine blk_alloc ?_ _)); refine blk_put (cs := #[.int .i64 0, .int .i64 0]) ?_ 0 _ rfl; (with_reducible repeat (first | refine blk_drewN ?_ _ | refine blk_drew ?_ | refine blk_alloc ?_ _)); exact BK187.out) hb); have n2_ := Aside0.mk (below_step (zq51) hb); clear HO177; clear BK187; clear HB; have HO177 := n0_; have BK187 := n1_; have HB := n2_; clear n0_ n1_ n2_; (try clear hb); (try clear hb2); (try clear hk); (try clear hi)) | ((with_reducible refine gate_dst (N := 10) rfl ?_); (try (refine gate_guard (by rfl) ?_; dsimp only)); refine box_event ?hg (N := 10) ?hd (cs := #[.int .i64 0, .int .i64 0]) (t := 40) ?hr ?_; (case hd => rfl); (case hg => rfl); (case hr => exact zq0); intro gb191 hg w19 hbox hb; have n0_ := Aside0.mk (Kd.R_below (zq49) hb); have n1_ := Aside0.mk (blk_below (g := gb187) (o := .cells #[.int .i64 t184, .int .i64 t185] 40 (0, 0)) (zq52) hb); have n2_ := Aside0.mk (below_step (zq51) hb); have n3_ := Aside0.mk (hbox); have n4_ := Aside0.mk ((zq53 : w.heap.size ≤ gb191)); have n5_ := Aside0.mk ((zq53 : w.heap.size ≤ gb191)); have n6_ := Aside0.mk ((zq54 : gb187 ≠ gb191)); have n7_ := Aside0.mk ((zq55 : gb191 ≠ gb187)); clear HO177; clear BK187; clear HB; have HO177 := n0_; have BK187 := n1_; have HB := n2_; have BK191 := n3_; have GW191 := n4_; have GE191 := n5_; have NB187_191 := n6_; have NB191_187 := n7_; clear n0_ n1_ n2_ n3_ n4_ n5_ n6_ n7_; clear hb hbox hg; have hnb20 := NB191_187.out; have hnc20 := NB187_191.out; have hcz21_0 : w19.cell? ⟨gb191, 0, none⟩ = some (.int .i64 0) := (blk_cell BK191.out 0).trans rfl; have hcz21_1 : w19.cell? ⟨gb191, 1, none⟩ = some (.int .i64 0) := (blk_cell BK191.out 1).trans rfl; have hfz21_0 := blk_frozen BK191.out 0; have hfz21_1 := blk_frozen BK191.out 1) | ((with_reducible refine gate_callee (f := 19) rfl ?_); refine goesL_ (some 47) rfl rfl Tryz.func19 (by kernel_rfl) rfl #[.slice Ao11 t175.length co11, .int .i64 0, .int .i64 3] rfl (zq3) ?_; (with_reducible refine (plan_Range.calls k _ _ t175 0 3 t192 t193 t194 _ ?side1 ?side2 A7.out).mono ?_); (case side1 => refine (Kd.R_reads' (e := 29) (base := w.heap.size) (ok := fun k_ => True) (n := t175.length) (c := co11) ?_).2.2; exact (zq56)); (case side2 => exact zq48); rintro e w22 ⟨rfl, hb⟩; refine ⟨_, rfl, ?_⟩; have n0_ := Aside0.mk (Kd.R_below (zq56) hb); have n1_ := Aside0.mk (blk_below (g := gb187) (o := .cells #[.int .i64 t184, .int .i64 t185] 40 (0, 0)) (by (with_reducible repeat (first | refine blk_drewN ?_ _ | refine blk_drew ?_ | refine blk_alloc ?_ _)); refine blk_far ?_ NB187_191.out _; (with_reducible repeat (first | refine blk_drewN ?_ _ | refine blk_drew ?_ | refine blk_alloc ?_ _)); refine blk_far ?_ NB187_191.out _; (with_reducible repeat (first | refine blk_drewN ?_ _ | refine blk_drew ?_ | refine blk_alloc ?_ _)); exact BK187.out) hb); have n2_ := Aside0.mk (blk_below (g := gb191) (o := .cells #[.int .i64 t188, .int .i64 t189] 40 (0, 0)) (by (with_reducible repeat (first | refine blk_drewN ?_ _ | refine blk_drew ?_ | refine blk_alloc ?_ _)); refine blk_put (cs := #[.int .i64 t188, .int .i64 0]) ?_ 1 _ rfl; (with_reducible repeat (first | refine blk_drewN ?_ _ | refine blk_drew ?_ | refine blk_alloc ?_ _)); refine blk_put (cs := #[.int .i64 0, .int .i64 0]) ?_ 0 _ rfl; (with_reducible repeat (first | refine blk_drewN ?_ _ | refine blk_drew ?_ | refine blk_alloc ?_ _)); exact BK191.out) hb); have n3_ := Aside0.mk (below_step (zq57) hb); clear HO177; clear BK187; clear BK191; clear HB; have HO177 := n0_; have BK187 := n1_; have BK191 := n2_; have HB := n3_; clear n0_ n1_ n2_ n3_; (try clear hb); (try clear hb2); (try clear hk); (try clear hi)) | ((with_reducible refine gate_dst (N := 12) rfl ?_); (try (refine gate_guard (by rfl) ?_; dsimp only)); refine box_event ?hg (N := 12) ?hd (cs := #[.int .i64 0, .int .i64 0]) (t := 40) ?hr ?_; (case hd => rfl); (case hg => rfl); (case hr => exact zq0); intro gb195 hg w23 hbox hb; have n0_ := Aside0.mk (Kd.R_below (zq49) hb); have n1_ := Aside0.mk (blk_below (g := gb187) (o := .cells #[.int .i64 t184, .int .i64 t185] 40 (0, 0)) (zq52) hb); have n2_ := Aside0.mk (blk_below (g := gb191) (o := .cells #[.int .i64 t188, .int .i64 t189] 40 (0, 0)) (zq58) hb); have n3_ := Aside0.mk (below_step (zq57) hb); have n4_ := Aside0.mk (hbox); have n5_ := Aside0.mk ((zq59 : w.heap.size ≤ gb195)); have n6_ := Aside0.mk ((zq59 : w.heap.size ≤ gb195)); have n7_ := Aside0.mk ((zq54 : gb187 ≠ gb195)); have n8_ := Aside0.mk ((zq55 : gb195 ≠ gb187)); have n9_ := Aside0.mk ((zq60 : gb191 ≠ gb195)); have n10_ := Aside0.mk ((zq61 : gb195 ≠ gb191)); clear HO177; clear BK187; clear BK191; clear HB; have HO177 := n0_; have BK187 := n1_; have BK191 := n2_; have HB := n3_; have BK195 := n4_; have GW195 := n5_; have GE195 := n6_; have NB187_195 := n7_; have NB195_187 := n8_; have NB191_195 := n9_; have NB195_191 := n10_; clear n0_ n1_ n2_ n3_ n4_ n5_ n6_ n7_ n8_ n9_ n10_; clear hb hbox hg; have hnb24 := NB195_187.out; have hnc24 := NB187_195.out; have hnb25 := NB195_191.out; have hnc25 := NB191_195.out; have hcz26_0 : w23.cell? ⟨gb195, 0, none⟩ = some (.int .i64 0) := (blk_cell BK195.out 0).trans rfl; have hcz26_1 : w23.cell? ⟨gb195, 1, none⟩ = some (.int .i64 0) := (blk_cell BK195.out 1).trans rfl; have hfz26_0 := blk_frozen BK195.out 0; have hfz26_1 := blk_frozen BK195.out 1) | ((with_reducible refine gate_callee (f := 19) rfl ?_); refine goesL_ (some 52) rfl rfl Tryz.func19 (by kernel_rfl) rfl #[.slice Ao11 t175.length co11, .int .i64 1, .int .i64 3] rfl (zq3) ?_; (with_reducible refine (plan_Range.calls k _ _ t175 1 3 t196 t197 t198 _ ?side1 ?side2 A8.out).mono ?_); (case side1 => refine (Kd.R_reads' (e := 29) (base := w.heap.size) (ok := fun k_ => True) (n := t175.length) (c := co11) ?_).2.2; exact (zq62)); (case side2 => exact zq48); rintro e w27 ⟨rfl, hb⟩; refine ⟨_, rfl, ?_⟩; have n0_ := Aside0.mk (Kd.R_below (zq62) hb); have n1_ := Aside0.mk (blk_below (g := gb187) (o := .cells #[.int .i64 t184, .int .i64 t185] 40 (0, 0)) (by (with_reducible repeat (first | refine blk_drewN ?_ _ | refine blk_drew ?_ | refine blk_alloc ?_ _)); refine blk_far ?_ NB187_195.out _; (with_reducible repeat (first | refine blk_drewN ?_ _ | refine blk_drew ?_ | refine blk_alloc ?_ _)); refine blk_far ?_ NB187_195.out _; (with_reducible repeat (first | refine blk_drewN ?_ _ | refine blk_drew ?_ | refine blk_alloc ?_ _)); exact BK187.out) hb); have n2_ := Aside0.mk (blk_below (g := gb191) (o := .cells #[.int .i64 t188, .int .i64 t189] 40 (0, 0)) (by (with_reducible repeat (first | refine blk_drewN ?_ _ | refine blk_drew ?_ | refine blk_alloc ?_ _)); refine blk_far ?_ NB191_195.out _; (with_reducible repeat (first | refine blk_drewN ?_ _ | refine blk_drew ?_ | refine blk_alloc ?_ _)); refine blk_far ?_ NB191_195.out _; (with_reducible repeat (first | refine blk_drewN ?_ _ | refine blk_drew ?_ | refine blk_alloc ?_ _)); exact BK191.out) hb); have n3_ := Aside0.mk (blk_below (g := gb195) (o := .cells #[.int .i64 t192, .int .i64 t193] 40 (0, 0)) (by (with_reducible repeat (first | refine blk_drewN ?_ _ | refine blk_drew ?_ | refine blk_alloc ?_ _)); refine blk_put (cs := #[.int .i64 t192, .int .i64 0]) ?_ 1 _ rfl; (with_reducible repeat (first | refine blk_drewN ?_ _ | refine blk_drew ?_ | refine blk_alloc ?_ _)); refine blk_put (cs := #[.int .i64 0, .int .i64 0]) ?_ 0 _ rfl; (with_reducible repeat (first | refine blk_drewN ?_ _ | refine blk_drew ?_ | refine blk_alloc ?_ _)); exact BK195.out) hb); have n4_ := Aside0.mk (below_step (zq63) hb); clear HO177; clear BK187; clear BK191; clear BK195; clear HB; have HO177 := n0_; have BK187 := n1_; have BK191 := n2_; have BK195 := n3_; have HB := n4_; clear n0_ n1_ n2_ n3_ n4_; (try clear hb); (try clear hb2); (try clear hk); (try clear hi)) | ((with_reducible refine gate_dst (N := 14) rfl ?_); (try (refine gate_guard (by rfl) ?_; dsimp only)); refine box_event ?hg (N := 14) ?hd (cs := #[.int .i64 0, .int .i64 0]) (t := 40) ?hr ?_; (case hd => rfl); (case hg => rfl); (case hr => exact zq0); intro gb199 hg w28 hbox hb; have n0_ := Aside0.mk (Kd.R_below (zq49) hb); have n1_ := Aside0.mk (blk_below (g := gb187) (o := .cells #[.int .i64 t184, .int .i64 t185] 40 (0, 0)) (zq52) hb); have n2_ := Aside0.mk (blk_below (g := gb191) (o := .cells #[.int .i64 t188, .int .i64 t189] 40 (0, 0)) (zq58) hb); have n3_ := Aside0.mk (blk_below (g := gb195) (o := .cells #[.int .i64 t192, .int .i64 t193] 40 (0, 0)) (zq64) hb); have n4_ := Aside0.mk (below_step (zq63) hb); have n5_ := Aside0.mk (hbox); have n6_ := Aside0.mk ((zq65 : w.heap.size ≤ gb199)); have n7_ := Aside0.mk ((zq65 : w.heap.size ≤ gb199)); have n8_ := Aside0.mk ((zq54 : gb187 ≠ gb199)); have n9_ := Aside0.mk ((zq55 : gb199 ≠ gb187)); have n10_ := Aside0.mk ((zq60 : gb191 ≠ gb199)); have n11_ := Aside0.mk ((zq61 : gb199 ≠ gb191)); have n12_ := Aside0.mk ((by rw [hg]; exact Nat.ne_of_lt (blk_lt (g := gb195) (o := .cells #[.int .i64 t192, .int .i64 t193] 40 (0, 0)) (zq64)) : gb195 ≠ gb199)); have n13_ := Aside0.mk ((by rw [hg]; exact Nat.ne_of_gt (blk_lt (g := gb195) (o := .cells #[.int .i64 t192, .int .i64 t193] 40 (0, 0)) (zq64)) : gb199 ≠ gb195)); clear HO177; clear BK187; clear BK191; clear BK195; clear HB; have HO177 := n0_; have BK187 := n1_; have BK191 := n2_; have BK195 := n3_; have HB := n4_; have BK199 := n5_; have GW199 := n6_; have GE199 := n7_; have NB187_199 := n8_; have NB199_187 := n9_; have NB191_199 := n10_; have NB199_191 := n11_; have NB195_199 := n12_; have NB199_195 := n13_; clear n0_ n1_ n2_ n3_ n4_ n5_ n6_ n7_ n8_ n9_ n10_ n11_ n12_ n13_; clear hb hbox hg; have hnb29 := NB199_187.out; have hnc29 := NB187_199.out; have hnb30 := NB199_191.out; have hnc30 := NB191_199.out; have hnb31 := NB199_195.out; have hnc31 := NB195_199.out; have hcz32_0 : w28.cell? ⟨gb199, 0, none⟩ = some (.int .i64 0) := (blk_cell BK199.out 0).trans rfl; have hcz32_1 : w28.cell? ⟨gb199, 1, none⟩ = some (.int .i64 0) := (blk_cell BK199.out 1).trans rfl; have hfz32_0 := blk_frozen BK199.out 0; have hfz32_1 := blk_frozen BK199.out 1))
 (try simp only [Act.put, List.setIfInBounds_toArray, List.set_cons_zero, List.set_cons_succ])
 go_cut [80] (fun v80 wc => ∃ (kq : Nat) (x80_8 : Bool), v80 = .bool x80_8 ∧ Aside0 (dialtonelaw12_sane.j0 kq t175 t178 t180 x80_8 t184 t185 t188 t189 t192 t193 t196 t197 = some r) ∧ Aside0 (kq ≤ k) ∧ Aside0 (Kd.R k29 29 wc w.heap.size (fun _ => True) (.slice Ao11 t175.length co11) t175) ∧ Aside0 (wc.heap[gb187]? = some (.cells #[.int .i64 t184, .int .i64 t185] 40 (0, 0))) ∧ Aside0 (wc.heap[gb191]? = some (.cells #[.int .i64 t188, .int .i64 t189] 40 (0, 0))) ∧ Aside0 (wc.heap[gb195]? = some (.cells #[.int .i64 t192, .int .i64 t193] 40 (0, 0))) ∧ Aside0 (wc.heap[gb199]? = some (.cells #[.int .i64 t196, .int .i64 t197] 40 (0, 0))) ∧ Aside0 (Below w.heap.size w wc))
 case first =>
  have H := HC9.out
  clear HC9
  by_cases c33 : t179 = 0
  ·rw [if_pos c33] at H
   have c33b0 : (t179 == 0) = true := beq_iff_eq.mpr c33
   have c33b1 : (t179 != 0) = false := bne_eq_false_iff_eq.mpr c33
   clear c33
   (first | rw [c33b0] | (simp only [i64_w, i32_w]; rw [c33b0]) | skip)
   by_cases c34 : t181 = 0
   ·rw [if_pos c34] at H
    have c34b0 : (t181 == 0) = true := beq_iff_eq.mpr c34
    have c34b1 : (t181 != 0) = false := bne_eq_false_iff_eq.mpr c34
    clear c34
    by_cases c35 : t183 = 120
    ·rw [if_pos c35] at H
     have c35b0 : (t183 == 120) = true := beq_iff_eq.mpr c35
     have c35b1 : (t183 != 120) = false := bne_eq_false_iff_eq.mpr c35
     clear c35
     by_cases c36 : t186 = 0
     ·rw [if_pos c36] at H
      have c36b0 : (t186 == 0) = true := beq_iff_eq.mpr c36
      have c36b1 : (t186 != 0) = false := bne_eq_false_iff_eq.mpr c36
      clear c36
      by_cases c37 : t190 = 0
      ·rw [if_pos c37] at H
       have c37b0 : (t190 == 0) = true := beq_iff_eq.mpr c37
       have c37b1 : (t190 != 0) = false := bne_eq_false_iff_eq.mpr c37
       clear c37
       by_cases c38 : t194 = 0
       ·rw [if_pos c38] at H
        have c38b0 : (t194 == 0) = true := beq_iff_eq.mpr c38
        have c38b1 : (t194 != 0) = false := bne_eq_false_iff_eq.mpr c38
        clear c38
        have H' := Aside0.mk H
        clear H
        go_wp2
        go_meet
        case rel => exact ⟨_, ((t198 != 0)), (zq6), H', ⟨by first | omega | exact Nat.le_refl _⟩, ⟨by (with_reducible repeat (first | apply Kd.R_alloc | apply Kd.R_drewN | apply Kd.R_drew)); exact Kd.R_mono (Kd.R_far (p := ⟨gb199, 1, none⟩) (Kd.R_far (p := ⟨gb199, 0, none⟩) (Kd.R_types HO177.out BK199.out (by decide)) (fun _ hk => hk.2) (.int .i64 t196)) (fun _ hk => hk.2) (.int .i64 t197)) (fun _ hk => trivial)⟩, ⟨by (with_reducible repeat (first | refine blk_drewN ?_ _ | refine blk_drew ?_ | refine blk_alloc ?_ _)); refine blk_far ?_ NB187_199.out _; (with_reducible repeat (first | refine blk_drewN ?_ _ | refine blk_drew ?_ | refine blk_alloc ?_ _)); refine blk_far ?_ NB187_199.out _; (with_reducible repeat (first | refine blk_drewN ?_ _ | refine blk_drew ?_ | refine blk_alloc ?_ _)); exact BK187.out⟩, ⟨by (with_reducible repeat (first | refine blk_drewN ?_ _ | refine blk_drew ?_ | refine blk_alloc ?_ _)); refine blk_far ?_ NB191_199.out _; (with_reducible repeat (first | refine blk_drewN ?_ _ | refine blk_drew ?_ | refine blk_alloc ?_ _)); refine blk_far ?_ NB191_199.out _; (with_reducible repeat (first | refine blk_drewN ?_ _ | refine blk_drew ?_ | refine blk_alloc ?_ _)); exact BK191.out⟩, ⟨by (with_reducible repeat (first | refine blk_drewN ?_ _ | refine blk_drew ?_ | refine blk_alloc ?_ _)); refine blk_far ?_ NB195_199.out _; (with_reducible repeat (first | refine blk_drewN ?_ _ | refine blk_drew ?_ | refine blk_alloc ?_ _)); refine blk_far ?_ NB195_199.out _; (with_reducible repeat (first | refine blk_drewN ?_ _ | refine blk_drew ?_ | refine blk_alloc ?_ _)); exact BK195.out⟩, ⟨by (with_reducible repeat (first | refine blk_drewN ?_ _ | refine blk_drew ?_ | refine blk_alloc ?_ _)); refine blk_put (cs := #[.int .i64 t196, .int .i64 0]) ?_ 1 _ rfl; (with_reducible repeat (first | refine blk_drewN ?_ _ | refine blk_drew ?_ | refine blk_alloc ?_ _)); refine blk_put (cs := #[.int .i64 0, .int .i64 0]) ?_ 0 _ rfl; (with_reducible repeat (first | refine blk_drewN ?_ _ | refine blk_drew ?_ | refine blk_alloc ?_ _)); exact BK199.out⟩, ⟨by repeat (first | (with_reducible first | exact HB.out | apply below_alloc | apply pw_below_drewN | apply below_drew1 | refine below_set ?_ GE187.out | refine below_set ?_ GE191.out | refine below_set ?_ GE195.out | refine below_set ?_ GE199.out) | exact HB.out)⟩⟩
       ·rw [if_neg c38] at H
        exact absurd H (by simp)
      ·rw [if_neg c37] at H
       exact absurd H (by simp)
     ·rw [if_neg c36] at H
      exact absurd H (by simp)
    ·rw [if_neg c35] at H
     exact absurd H (by simp)
   ·rw [if_neg c34] at H
    exact absurd H (by simp)
  ·rw [if_neg c33] at H
   exact absurd H (by simp)
 case rest =>
  clear HC9
  try clear c1
  try clear c2
  try clear p2
  try clear c3
  try clear p6
  try clear c11
  try clear c17
  try clear c19
  try clear c20
  try clear c24
  try clear c25
  try clear c29
  try clear c30
  try clear c31
  try clear c33
  try clear c33b0
  try clear c33b1
  try clear c34
  try clear c34b0
  try clear c34b1
  try clear c35
  try clear c35b0
  try clear c35b1
  try clear c36
  try clear c36b0
  try clear c36b1
  try clear c37
  try clear c37b0
  try clear c37b1
  try clear c38
  try clear c38b0
  try clear c38b1
  try clear hcz17_0
  try clear hcz17_1
  try clear hcz21_0
  try clear hcz21_1
  try clear hcz26_0
  try clear hcz26_1
  try clear hcz32_0
  try clear hcz32_1
  try clear hfz17_0
  try clear hfz17_1
  try clear hfz21_0
  try clear hfz21_1
  try clear hfz26_0
  try clear hfz26_1
  try clear hfz32_0
  try clear hfz32_1
  obtain ⟨kq, x80_8, rfl, HA, HJ8, HO_1, BK187, BK191, BK195, BK199, HB⟩ := hcut
  cases kq with
  | zero => exact absurd HA.out (by simp [dialtonelaw12_sane.j0])
  | succ kj8 =>
   have H := HA.out
   clear HA
   simp only [dialtonelaw12_sane.j0] at H
   by_cases c39 : x80_8 = true
   ·subst c39
    rw [if_pos rfl] at H
    exact absurd H (by simp)
   ·replace c39 := Bool.eq_false_iff.mpr c39
    subst c39
    rw [if_neg (show ¬ (false = true) by decide)] at H
    have HC40 := Aside0.mk H
    clear H
    go_upto_region 11 with (fail)
    go_cut [16] (fun v16 wc => ∃ (kq : Nat) (x16_39 : Bool), v16 = .bool x16_39 ∧ Aside0 (dialtonelaw12_sane.j1 kq t175 x16_39 t184 t185 t188 t189 t192 t193 t196 t197 = some r) ∧ Aside0 (kq ≤ kj8) ∧ Aside0 (Kd.R k29 29 wc w.heap.size (fun _ => True) (.slice Ao11 t175.length co11) t175) ∧ Aside0 (wc.heap[gb187]? = some (.cells #[.int .i64 t184, .int .i64 t185] 40 (0, 0))) ∧ Aside0 (wc.heap[gb191]? = some (.cells #[.int .i64 t188, .int .i64 t189] 40 (0, 0))) ∧ Aside0 (wc.heap[gb195]? = some (.cells #[.int .i64 t192, .int .i64 t193] 40 (0, 0))) ∧ Aside0 (wc.heap[gb199]? = some (.cells #[.int .i64 t196, .int .i64 t197] 40 (0, 0))) ∧ Aside0 (Below w.heap.size w wc))
    case first =>
     have H := HC40.out
     clear HC40
     by_cases c41 : t178.toList = ([50, 49, 50, 51, 52] : List UInt8)
     ·rw [if_pos c41] at H
      have c41b0 : (t178.toList == ([50, 49, 50, 51, 52] : List UInt8)) = true := beq_iff_eq.mpr c41
      have c41b1 : (t178.toList != ([50, 49, 50, 51, 52] : List UInt8)) = false := bne_eq_false_iff_eq.mpr c41
      clear c41
      (first | rw [c41b0] | (simp only [i64_w, i32_w]; rw [c41b0]) | skip)
      by_cases c42 : t180.toList = ([56, 50, 57, 57, 49, 50, 51, 52] : List UInt8)
      ·rw [if_pos c42] at H
       have c42b0 : (t180.toList == ([56, 50, 57, 57, 49, 50, 51, 52] : List UInt8)) = true := beq_iff_eq.mpr c42
       have c42b1 : (t180.toList != ([56, 50, 57, 57, 49, 50, 51, 52] : List UInt8)) = false := bne_eq_false_iff_eq.mpr c42
       clear c42
       replace H := Option.bind_eq_some_iff.mp H
       obtain ⟨t200, A430, H⟩ := H
       try dsimp only at H
       have A43 := Aside0.mk A430
       clear A430
       by_cases c44 : t200 = true
       ·subst c44
        rw [if_pos rfl] at H
        replace H := Option.bind_eq_some_iff.mp H
        obtain ⟨t201, A450, H⟩ := H
        try dsimp only at H
        have A45 := Aside0.mk A450
        clear A450
        by_cases c46 : t201 = true
        ·subst c46
         rw [if_pos rfl] at H
         replace H := Option.bind_eq_some_iff.mp H
         obtain ⟨t202, A470, H⟩ := H
         try dsimp only at H
         have A47 := Aside0.mk A470
         clear A470
         by_cases c48 : t202 = true
         ·subst c48
          rw [if_pos rfl] at H
          replace H := Option.bind_eq_some_iff.mp H
          obtain ⟨t203, A490, H⟩ := H
          try dsimp only at H
          have A49 := Aside0.mk A490
          clear A490
          have H' := Aside0.mk H
          clear H
          go_wp2_with (first | (go_at_call 31; (with_reducible refine (dialtonelaw12_reads.calls kj8 (⟨#[50, 49, 50, 51, 52]⟩ : ByteArray) 82001234 0 5 true _ A43.out).mono ?_); rintro e w50 ⟨rfl, hb⟩; have n0_ := Aside0.mk (Kd.R_below (zq66) hb); have n1_ := Aside0.mk (blk_below (g := gb187) (o := .cells #[.int .i64 t184, .int .i64 t185] 40 (0, 0)) (zq52) hb); have n2_ := Aside0.mk (blk_below (g := gb191) (o := .cells #[.int .i64 t188, .int .i64 t189] 40 (0, 0)) (zq58) hb); have n3_ := Aside0.mk (blk_below (g := gb195) (o := .cells #[.int .i64 t192, .int .i64 t193] 40 (0, 0)) (zq64) hb); have n4_ := Aside0.mk (blk_below (g := gb199) (o := .cells #[.int .i64 t196, .int .i64 t197] 40 (0, 0)) (zq67) hb); have n5_ := Aside0.mk (below_step (zq68) hb); clear HO_1; clear BK187; clear BK191; clear BK195; clear BK199; clear HB; have HO_1 := n0_; have BK187 := n1_; have BK191 := n2_; have BK195 := n3_; have BK199 := n4_; have HB := n5_; clear n0_ n1_ n2_ n3_ n4_ n5_; (try clear hb); (try clear hb2); (try clear hk); (try clear hi)) | (go_at_call 31; (with_reducible refine (dialtonelaw12_reads.calls kj8 (⟨#[56, 50, 48, 48, 49, 50, 51, 52]⟩ : ByteArray) 82001234 0 8 true _ A45.out).mono ?_); rintro e w51 ⟨rfl, hb⟩; have n0_ := Aside0.mk (Kd.R_below (zq66) hb); have n1_ := Aside0.mk (blk_below (g := gb187) (o := .cells #[.int .i64 t184, .int .i64 t185] 40 (0, 0)) (zq52) hb); have n2_ := Aside0.mk (blk_below (g := gb191) (o := .cells #[.int .i64 t188, .int .i64 t189] 40 (0, 0)) (zq58) hb); have n3_ := Aside0.mk (blk_below (g := gb195) (o := .cells #[.int .i64 t192, .int .i64 t193] 40 (0, 0)) (zq64) hb); have n4_ := Aside0.mk (blk_below (g := gb199) (o := .cells #[.int .i64 t196, .int .i64 t197] 40 (0, 0)) (zq67) hb); have n5_ := Aside0.mk (below_step (zq68) hb); clear HO_1; clear BK187; clear BK191; clear BK195; clear BK199; clear HB; have HO_1 := n0_; have BK187 := n1_; have BK191 := n2_; have BK195 := n3_; have BK199 := n4_; have HB := n5_; clear n0_ n1_ n2_ n3_ n4_ n5_; (try clear hb); (try clear hb2); (try clear hk); (try clear hi)) | (go_at_call 31; (with_reducible refine (dialtonelaw12_reads.calls kj8 (⟨#[50, 49, 50, 51, 52, 53]⟩ : ByteArray) 82001234 0 5 true _ A47.out).mono ?_); rintro e w52 ⟨rfl, hb⟩; have n0_ := Aside0.mk (Kd.R_below (zq66) hb); have n1_ := Aside0.mk (blk_below (g := gb187) (o := .cells #[.int .i64 t184, .int .i64 t185] 40 (0, 0)) (zq52) hb); have n2_ := Aside0.mk (blk_below (g := gb191) (o := .cells #[.int .i64 t188, .int .i64 t189] 40 (0, 0)) (zq58) hb); have n3_ := Aside0.mk (blk_below (g := gb195) (o := .cells #[.int .i64 t192, .int .i64 t193] 40 (0, 0)) (zq64) hb); have n4_ := Aside0.mk (blk_below (g := gb199) (o := .cells #[.int .i64 t196, .int .i64 t197] 40 (0, 0)) (zq67) hb); have n5_ := Aside0.mk (below_step (zq68) hb); clear HO_1; clear BK187; clear BK191; clear BK195; clear BK199; clear HB; have HO_1 := n0_; have BK187 := n1_; have BK191 := n2_; have BK195 := n3_; have BK199 := n4_; have HB := n5_; clear n0_ n1_ n2_ n3_ n4_ n5_; (try clear hb); (try clear hb2); (try clear hk); (try clear hi)) | (go_at_call 31; (with_reducible refine (dialtonelaw12_reads.calls kj8 (⟨#[51, 49, 48, 48, 55]⟩ : ByteArray) 90000007 1 5 t203 _ A49.out).mono ?_); rintro e w53 ⟨rfl, hb⟩; have n0_ := Aside0.mk (Kd.R_below (zq66) hb); have n1_ := Aside0.mk (blk_below (g := gb187) (o := .cells #[.int .i64 t184, .int .i64 t185] 40 (0, 0)) (zq52) hb); have n2_ := Aside0.mk (blk_below (g := gb191) (o := .cells #[.int .i64 t188, .int .i64 t189] 40 (0, 0)) (zq58) hb); have n3_ := Aside0.mk (blk_below (g := gb195) (o := .cells #[.int .i64 t192, .int .i64 t193] 40 (0, 0)) (zq64) hb); have n4_ := Aside0.mk (blk_below (g := gb199) (o := .cells #[.int .i64 t196, .int .i64 t197] 40 (0, 0)) (zq67) hb); have n5_ := Aside0.mk (below_step (zq68) hb); clear HO_1; clear BK187; clear BK191; clear BK195; clear BK199; clear HB; have HO_1 := n0_; have BK187 := n1_; have BK191 := n2_; have BK195 := n3_; have BK199 := n4_; have HB := n5_; clear n0_ n1_ n2_ n3_ n4_ n5_; (try clear hb); (try clear hb2); (try clear hk); (try clear hi)))
          go_meet
          case rel => exact ⟨_, (t203), (zq6), H', ⟨by have := HJ8.out; first | omega | exact Nat.le_refl _⟩, ⟨by (with_reducible repeat (first | apply Kd.R_alloc | apply Kd.R_drewN | apply Kd.R_drew)); exact HO_1.out⟩, ⟨by (with_reducible repeat (first | refine blk_drewN ?_ _ | refine blk_drew ?_ | refine blk_alloc ?_ _)); exact BK187.out⟩, ⟨by (with_reducible repeat (first | refine blk_drewN ?_ _ | refine blk_drew ?_ | refine blk_alloc ?_ _)); exact BK191.out⟩, ⟨by (with_reducible repeat (first | refine blk_drewN ?_ _ | refine blk_drew ?_ | refine blk_alloc ?_ _)); exact BK195.out⟩, ⟨by (with_reducible repeat (first | refine blk_drewN ?_ _ | refine blk_drew ?_ | refine blk_alloc ?_ _)); exact BK199.out⟩, ⟨by repeat (first | (with_reducible first | exact HB.out | apply below_alloc | apply pw_below_drewN | apply below_drew1 | refine below_set ?_ GE187.out | refine below_set ?_ GE191.out | refine below_set ?_ GE195.out | refine below_set ?_ GE199.out) | exact HB.out)⟩⟩
         ·replace c48 := Bool.eq_false_iff.mpr c48
          subst c48
          rw [if_neg (show ¬ (false = true) by decide)] at H
          exact absurd H (by simp)
        ·replace c46 := Bool.eq_false_iff.mpr c46
         subst c46
         rw [if_neg (show ¬ (false = true) by decide)] at H
         exact absurd H (by simp)
       ·replace c44 := Bool.eq_false_iff.mpr c44
        subst c44
        rw [if_neg (show ¬ (false = true) by decide)] at H
        exact absurd H (by simp)
      ·rw [if_neg c42] at H
       exact absurd H (by simp)
     ·rw [if_neg c41] at H
      exact absurd H (by simp)
    case rest =>
     clear HC40
     try clear c1
     try clear c2
     try clear p2
     try clear c3
     try clear c4
     try clear p6
     try clear c11
     try clear c17
     try clear c19
     try clear c20
     try clear c24
     try clear c25
     try clear c29
     try clear c30
     try clear c31
     try clear c33
     try clear c33b0
     try clear c33b1
     try clear c34
     try clear c34b0
     try clear c34b1
     try clear c35
     try clear c35b0
     try clear c35b1
     try clear c36
     try clear c36b0
     try clear c36b1
     try clear c37
     try clear c37b0
     try clear c37b1
     try clear c38
     try clear c38b0
     try clear c38b1
     try clear c39
     try clear c41
     try clear c41b0
     try clear c41b1
     try clear c42
     try clear c42b0
     try clear c42b1
     try clear c44
     try clear c46
     try clear c48
     try clear hcz17_0
     try clear hcz17_1
     try clear hcz21_0
     try clear hcz21_1
     try clear hcz26_0
     try clear hcz26_1
     try clear hcz32_0
     try clear hcz32_1
     try clear hfz17_0
     try clear hfz17_1
     try clear hfz21_0
     try clear hfz21_1
     try clear hfz26_0
     try clear hfz26_1
     try clear hfz32_0
     try clear hfz32_1
     try clear p2
     try clear p6
     obtain ⟨kq, x16_39, rfl, HA, HJ39, HO_1, BK187, BK191, BK195, BK199, HB⟩ := hcut
     cases kq with
     | zero => exact absurd HA.out (by simp [dialtonelaw12_sane.j1])
     | succ kj39 =>
      have H := HA.out
      clear HA
      simp only [dialtonelaw12_sane.j1] at H
      have HC54 := Aside0.mk H
      clear H
      go_upto_region 12 with (fail)
      go_cut [17] (fun v17 wc => ∃ (kq : Nat) (x17_53 : Bool), v17 = .bool x17_53 ∧ Aside0 (dialtonelaw12_sane.j2 kq t175 x16_39 x17_53 t184 t185 t188 t189 t192 t193 t196 t197 = some r) ∧ Aside0 (kq ≤ kj39) ∧ Aside0 (Kd.R k29 29 wc w.heap.size (fun _ => True) (.slice Ao11 t175.length co11) t175) ∧ Aside0 (wc.heap[gb187]? = some (.cells #[.int .i64 t184, .int .i64 t185] 40 (0, 0))) ∧ Aside0 (wc.heap[gb191]? = some (.cells #[.int .i64 t188, .int .i64 t189] 40 (0, 0))) ∧ Aside0 (wc.heap[gb195]? = some (.cells #[.int .i64 t192, .int .i64 t193] 40 (0, 0))) ∧ Aside0 (wc.heap[gb199]? = some (.cells #[.int .i64 t196, .int .i64 t197] 40 (0, 0))) ∧ Aside0 (Below w.heap.size w wc))
      case first =>
       have H := HC54.out
       clear HC54
       replace H := Option.bind_eq_some_iff.mp H
       obtain ⟨t204, A550, H⟩ := H
       try dsimp only at H
       have A55 := Aside0.mk A550
       clear A550
       by_cases c56 : t204 = 1
       ·rw [if_pos c56] at H
        have c56b0 : (t204 == 1) = true := beq_iff_eq.mpr c56
        have c56b1 : (t204 != 1) = false := bne_eq_false_iff_eq.mpr c56
        clear c56
        (first | rw [c56b0] | (simp only [i64_w, i32_w]; rw [c56b0]) | skip)
        replace H := Option.bind_eq_some_iff.mp H
        obtain ⟨t205, A570, H⟩ := H
        try dsimp only at H
        have A57 := Aside0.mk A570
        clear A570
        by_cases c58 : t205 = 1
        ·rw [if_pos c58] at H
         have c58b0 : (t205 == 1) = true := beq_iff_eq.mpr c58
         have c58b1 : (t205 != 1) = false := bne_eq_false_iff_eq.mpr c58
         clear c58
         replace H := Option.bind_eq_some_iff.mp H
         obtain ⟨t206, A590, H⟩ := H
         try dsimp only at H
         have A59 := Aside0.mk A590
         clear A590
         by_cases c60 : t206 = 0
         ·rw [if_pos c60] at H
          have c60b0 : (t206 == 0) = true := beq_iff_eq.mpr c60
          have c60b1 : (t206 != 0) = false := bne_eq_false_iff_eq.mpr c60
          clear c60
          replace H := Option.bind_eq_some_iff.mp H
          obtain ⟨t207, A610, H⟩ := H
          try dsimp only at H
          have A61 := Aside0.mk A610
          clear A610
          by_cases c62 : t207 = 1
          ·rw [if_pos c62] at H
           have c62b0 : (t207 == 1) = true := beq_iff_eq.mpr c62
           have c62b1 : (t207 != 1) = false := bne_eq_false_iff_eq.mpr c62
           clear c62
           replace H := Option.bind_eq_some_iff.mp H
           obtain ⟨t208, A630, H⟩ := H
           try dsimp only at H
           have A63 := Aside0.mk A630
           clear A630
           by_cases c64 : t208 = 0
           ·rw [if_pos c64] at H
            have c64b0 : (t208 == 0) = true := beq_iff_eq.mpr c64
            have c64b1 : (t208 != 0) = false := bne_eq_false_iff_eq.mpr c64
            clear c64
            replace H := Option.bind_eq_some_iff.mp H
            obtain ⟨t209, A650, H⟩ := H
            try dsimp only at H
            have A65 := Aside0.mk A650
            clear A650
            by_cases c66 : t209 = 0
            ·rw [if_pos c66] at H
             have c66b0 : (t209 == 0) = true := beq_iff_eq.mpr c66
             have c66b1 : (t209 != 0) = false := bne_eq_false_iff_eq.mpr c66
             clear c66
             replace H := Option.bind_eq_some_iff.mp H
             obtain ⟨t210, A670, H⟩ := H
             try dsimp only at H
             have A67 := Aside0.mk A670
             clear A670
             have H' := Aside0.mk H
             clear H
             go_wp2_with (first | ((with_reducible refine gate_callee (f := 32) rfl ?_); refine goesL_ (some 99) rfl rfl Tryz.func32 (by kernel_rfl) rfl #[.string (⟨#[56, 50, 48, 48, 49, 50, 51]⟩ : ByteArray), .int .i64 2] rfl (zq3) ?_; (with_reducible refine (dialtonelaw12_kind.calls kj39 (⟨#[56, 50, 48, 48, 49, 50, 51]⟩ : ByteArray) 2 t204 _ A55.out).mono ?_); rintro e w68 ⟨rfl, hb⟩; refine ⟨_, rfl, ?_⟩; have n0_ := Aside0.mk (Kd.R_below (zq66) hb); have n1_ := Aside0.mk (blk_below (g := gb187) (o := .cells #[.int .i64 t184, .int .i64 t185] 40 (0, 0)) (zq52) hb); have n2_ := Aside0.mk (blk_below (g := gb191) (o := .cells #[.int .i64 t188, .int .i64 t189] 40 (0, 0)) (zq58) hb); have n3_ := Aside0.mk (blk_below (g := gb195) (o := .cells #[.int .i64 t192, .int .i64 t193] 40 (0, 0)) (zq64) hb); have n4_ := Aside0.mk (blk_below (g := gb199) (o := .cells #[.int .i64 t196, .int .i64 t197] 40 (0, 0)) (zq67) hb); have n5_ := Aside0.mk (below_step (zq68) hb); clear HO_1; clear BK187; clear BK191; clear BK195; clear BK199; clear HB; have HO_1 := n0_; have BK187 := n1_; have BK191 := n2_; have BK195 := n3_; have BK199 := n4_; have HB := n5_; clear n0_ n1_ n2_ n3_ n4_ n5_; (try clear hb); (try clear hb2); (try clear hk); (try clear hi)) | (go_at_call 32; (with_reducible refine (dialtonelaw12_kind.calls kj39 (⟨#[51]⟩ : ByteArray) 2 t205 _ A57.out).mono ?_); rintro e w69 ⟨rfl, hb⟩; have n0_ := Aside0.mk (Kd.R_below (zq66) hb); have n1_ := Aside0.mk (blk_below (g := gb187) (o := .cells #[.int .i64 t184, .int .i64 t185] 40 (0, 0)) (zq52) hb); have n2_ := Aside0.mk (blk_below (g := gb191) (o := .cells #[.int .i64 t188, .int .i64 t189] 40 (0, 0)) (zq58) hb); have n3_ := Aside0.mk (blk_below (g := gb195) (o := .cells #[.int .i64 t192, .int .i64 t193] 40 (0, 0)) (zq64) hb); have n4_ := Aside0.mk (blk_below (g := gb199) (o := .cells #[.int .i64 t196, .int .i64 t197] 40 (0, 0)) (zq67) hb); have n5_ := Aside0.mk (below_step (zq68) hb); clear HO_1; clear BK187; clear BK191; clear BK195; clear BK199; clear HB; have HO_1 := n0_; have BK187 := n1_; have BK191 := n2_; have BK195 := n3_; have BK199 := n4_; have HB := n5_; clear n0_ n1_ n2_ n3_ n4_ n5_; (try clear hb); (try clear hb2); (try clear hk); (try clear hi)) | (go_at_call 32; (with_reducible refine (dialtonelaw12_kind.calls kj39 (⟨#[53]⟩ : ByteArray) 2 t206 _ A59.out).mono ?_); rintro e w70 ⟨rfl, hb⟩; have n0_ := Aside0.mk (Kd.R_below (zq66) hb); have n1_ := Aside0.mk (blk_below (g := gb187) (o := .cells #[.int .i64 t184, .int .i64 t185] 40 (0, 0)) (zq52) hb); have n2_ := Aside0.mk (blk_below (g := gb191) (o := .cells #[.int .i64 t188, .int .i64 t189] 40 (0, 0)) (zq58) hb); have n3_ := Aside0.mk (blk_below (g := gb195) (o := .cells #[.int .i64 t192, .int .i64 t193] 40 (0, 0)) (zq64) hb); have n4_ := Aside0.mk (blk_below (g := gb199) (o := .cells #[.int .i64 t196, .int .i64 t197] 40 (0, 0)) (zq67) hb); have n5_ := Aside0.mk (below_step (zq68) hb); clear HO_1; clear BK187; clear BK191; clear BK195; clear BK199; clear HB; have HO_1 := n0_; have BK187 := n1_; have BK191 := n2_; have BK195 := n3_; have BK199 := n4_; have HB := n5_; clear n0_ n1_ n2_ n3_ n4_ n5_; (try clear hb); (try clear hb2); (try clear hk); (try clear hi)) | (go_at_call 32; (with_reducible refine (dialtonelaw12_kind.calls kj39 (⟨#[]⟩ : ByteArray) 2 t207 _ A61.out).mono ?_); rintro e w71 ⟨rfl, hb⟩; have n0_ := Aside0.mk (Kd.R_below (zq66) hb); have n1_ := Aside0.mk (blk_below (g := gb187) (o := .cells #[.int .i64 t184, .int .i64 t185] 40 (0, 0)) (zq52) hb); have n2_ := Aside0.mk (blk_below (g := gb191) (o := .cells #[.int .i64 t188, .int .i64 t189] 40 (0, 0)) (zq58) hb); have n3_ := Aside0.mk (blk_below (g := gb195) (o := .cells #[.int .i64 t192, .int .i64 t193] 40 (0, 0)) (zq64) hb); have n4_ := Aside0.mk (blk_below (g := gb199) (o := .cells #[.int .i64 t196, .int .i64 t197] 40 (0, 0)) (zq67) hb); have n5_ := Aside0.mk (below_step (zq68) hb); clear HO_1; clear BK187; clear BK191; clear BK195; clear BK199; clear HB; have HO_1 := n0_; have BK187 := n1_; have BK191 := n2_; have BK195 := n3_; have BK199 := n4_; have HB := n5_; clear n0_ n1_ n2_ n3_ n4_ n5_; (try clear hb); (try clear hb2); (try clear hk); (try clear hi)) | (go_at_call 32; (with_reducible refine (dialtonelaw12_kind.calls kj39 (⟨#[50, 49, 50, 51, 52]⟩ : ByteArray) 3 t208 _ A63.out).mono ?_); rintro e w72 ⟨rfl, hb⟩; have n0_ := Aside0.mk (Kd.R_below (zq66) hb); have n1_ := Aside0.mk (blk_below (g := gb187) (o := .cells #[.int .i64 t184, .int .i64 t185] 40 (0, 0)) (zq52) hb); have n2_ := Aside0.mk (blk_below (g := gb191) (o := .cells #[.int .i64 t188, .int .i64 t189] 40 (0, 0)) (zq58) hb); have n3_ := Aside0.mk (blk_below (g := gb195) (o := .cells #[.int .i64 t192, .int .i64 t193] 40 (0, 0)) (zq64) hb); have n4_ := Aside0.mk (blk_below (g := gb199) (o := .cells #[.int .i64 t196, .int .i64 t197] 40 (0, 0)) (zq67) hb); have n5_ := Aside0.mk (below_step (zq68) hb); clear HO_1; clear BK187; clear BK191; clear BK195; clear BK199; clear HB; have HO_1 := n0_; have BK187 := n1_; have BK191 := n2_; have BK195 := n3_; have BK199 := n4_; have HB := n5_; clear n0_ n1_ n2_ n3_ n4_ n5_; (try clear hb); (try clear hb2); (try clear hk); (try clear hi)) | (go_at_call 32; (with_reducible refine (dialtonelaw12_kind.calls kj39 (⟨#[56, 50, 48, 48, 49, 50, 51, 52]⟩ : ByteArray) 1 t209 _ A65.out).mono ?_); rintro e w73 ⟨rfl, hb⟩; have n0_ := Aside0.mk (Kd.R_below (zq66) hb); have n1_ := Aside0.mk (blk_below (g := gb187) (o := .cells #[.int .i64 t184, .int .i64 t185] 40 (0, 0)) (zq52) hb); have n2_ := Aside0.mk (blk_below (g := gb191) (o := .cells #[.int .i64 t188, .int .i64 t189] 40 (0, 0)) (zq58) hb); have n3_ := Aside0.mk (blk_below (g := gb195) (o := .cells #[.int .i64 t192, .int .i64 t193] 40 (0, 0)) (zq64) hb); have n4_ := Aside0.mk (blk_below (g := gb199) (o := .cells #[.int .i64 t196, .int .i64 t197] 40 (0, 0)) (zq67) hb); have n5_ := Aside0.mk (below_step (zq68) hb); clear HO_1; clear BK187; clear BK191; clear BK195; clear BK199; clear HB; have HO_1 := n0_; have BK187 := n1_; have BK191 := n2_; have BK195 := n3_; have BK199 := n4_; have HB := n5_; clear n0_ n1_ n2_ n3_ n4_ n5_; (try clear hb); (try clear hb2); (try clear hk); (try clear hi)) | (go_at_call 32; (with_reducible refine (dialtonelaw12_kind.calls kj39 (⟨#[50, 120]⟩ : ByteArray) 2 t210 _ A67.out).mono ?_); rintro e w74 ⟨rfl, hb⟩; have n0_ := Aside0.mk (Kd.R_below (zq66) hb); have n1_ := Aside0.mk (blk_below (g := gb187) (o := .cells #[.int .i64 t184, .int .i64 t185] 40 (0, 0)) (zq52) hb); have n2_ := Aside0.mk (blk_below (g := gb191) (o := .cells #[.int .i64 t188, .int .i64 t189] 40 (0, 0)) (zq58) hb); have n3_ := Aside0.mk (blk_below (g := gb195) (o := .cells #[.int .i64 t192, .int .i64 t193] 40 (0, 0)) (zq64) hb); have n4_ := Aside0.mk (blk_below (g := gb199) (o := .cells #[.int .i64 t196, .int .i64 t197] 40 (0, 0)) (zq67) hb); have n5_ := Aside0.mk (below_step (zq68) hb); clear HO_1; clear BK187; clear BK191; clear BK195; clear BK199; clear HB; have HO_1 := n0_; have BK187 := n1_; have BK191 := n2_; have BK195 := n3_; have BK199 := n4_; have HB := n5_; clear n0_ n1_ n2_ n3_ n4_ n5_; (try clear hb); (try clear hb2); (try clear hk); (try clear hi)))
             go_meet
             case rel => exact ⟨_, ((t210 == (-1))), (zq6), H', ⟨by have := HJ8.out; have := HJ39.out; first | omega | exact Nat.le_refl _⟩, ⟨by (with_reducible repeat (first | apply Kd.R_alloc | apply Kd.R_drewN | apply Kd.R_drew)); exact HO_1.out⟩, ⟨by (with_reducible repeat (first | refine blk_drewN ?_ _ | refine blk_drew ?_ | refine blk_alloc ?_ _)); exact BK187.out⟩, ⟨by (with_reducible repeat (first | refine blk_drewN ?_ _ | refine blk_drew ?_ | refine blk_alloc ?_ _)); exact BK191.out⟩, ⟨by (with_reducible repeat (first | refine blk_drewN ?_ _ | refine blk_drew ?_ | refine blk_alloc ?_ _)); exact BK195.out⟩, ⟨by (with_reducible repeat (first | refine blk_drewN ?_ _ | refine blk_drew ?_ | refine blk_alloc ?_ _)); exact BK199.out⟩, ⟨by repeat (first | (with_reducible first | exact HB.out | apply below_alloc | apply pw_below_drewN | apply below_drew1 | refine below_set ?_ GE187.out | refine below_set ?_ GE191.out | refine below_set ?_ GE195.out | refine below_set ?_ GE199.out) | exact HB.out)⟩⟩
            ·rw [if_neg c66] at H
             exact absurd H (by simp)
           ·rw [if_neg c64] at H
            exact absurd H (by simp)
          ·rw [if_neg c62] at H
           exact absurd H (by simp)
         ·rw [if_neg c60] at H
          exact absurd H (by simp)
        ·rw [if_neg c58] at H
         exact absurd H (by simp)
       ·rw [if_neg c56] at H
        exact absurd H (by simp)
      case rest =>
       clear HC54
       try clear c1
       try clear c2
       try clear p2
       try clear c3
       try clear c4
       try clear c5
       try clear c6
       try clear p6
       try clear c11
       try clear c17
       try clear c19
       try clear c20
       try clear c24
       try clear c25
       try clear c29
       try clear c30
       try clear c31
       try clear c32
       try clear c33
       try clear c33b0
       try clear c33b1
       try clear c34
       try clear c34b0
       try clear c34b1
       try clear c35
       try clear c35b0
       try clear c35b1
       try clear c36
       try clear c36b0
       try clear c36b1
       try clear c37
       try clear c37b0
       try clear c37b1
       try clear c38
       try clear c38b0
       try clear c38b1
       try clear c39
       try clear c41
       try clear c41b0
       try clear c41b1
       try clear c42
       try clear c42b0
       try clear c42b1
       try clear c44
       try clear c46
       try clear c48
       try clear c56
       try clear c56b0
       try clear c56b1
       try clear c58
       try clear c58b0
       try clear c58b1
       try clear c60
       try clear c60b0
       try clear c60b1
       try clear c62
       try clear c62b0
       try clear c62b1
       try clear c64
       try clear c64b0
       try clear c64b1
       try clear p64
       try clear c66
       try clear c66b0
       try clear c66b1
       try clear hcz17_0
       try clear hcz17_1
       try clear hcz21_0
       try clear hcz21_1
       try clear hcz26_0
       try clear hcz26_1
       try clear hcz32_0
       try clear hcz32_1
       try clear hfz17_0
       try clear hfz17_1
       try clear hfz21_0
       try clear hfz21_1
       try clear hfz26_0
       try clear hfz26_1
       try clear hfz32_0
       try clear hfz32_1
       try clear p2
       try clear p6
       obtain ⟨kq, x17_53, rfl, HA, HJ53, HO_1, BK187, BK191, BK195, BK199, HB⟩ := hcut
       cases kq with
       | zero => exact absurd HA.out (by simp [dialtonelaw12_sane.j2])
       | succ kj53 =>
        have H := HA.out
        clear HA
        simp only [dialtonelaw12_sane.j2] at H
        have HC75 := Aside0.mk H
        clear H
        go_upto_region 13 with (fail)
        go_cut [18] (fun v18 wc => ∃ (kq : Nat) (x18_74 : Bool), v18 = .bool x18_74 ∧ Aside0 (dialtonelaw12_sane.j3 kq t175 x16_39 x17_53 x18_74 = some r) ∧ Aside0 (kq ≤ kj53) ∧ Aside0 (Kd.R k29 29 wc w.heap.size (fun _ => True) (.slice Ao11 t175.length co11) t175) ∧ Aside0 (wc.heap[gb187]? = some (.cells #[.int .i64 t184, .int .i64 t185] 40 (0, 0))) ∧ Aside0 (wc.heap[gb191]? = some (.cells #[.int .i64 t188, .int .i64 t189] 40 (0, 0))) ∧ Aside0 (wc.heap[gb195]? = some (.cells #[.int .i64 t192, .int .i64 t193] 40 (0, 0))) ∧ Aside0 (wc.heap[gb199]? = some (.cells #[.int .i64 t196, .int .i64 t197] 40 (0, 0))) ∧ Aside0 (Below w.heap.size w wc))
        case first =>
         have H := HC75.out
         clear HC75
         by_cases c76 : (t184 == 82000000 && (t185 == 82010000)) = true
         ·rw [if_pos c76] at H
          have c76b0 : (t184 == 82000000 && (t185 == 82010000)) = true := c76
          (try (have c76b1 : decide (t184 = 82000000 && (t185 == 82010000)) = true := by simpa using c76))
          (try (have c76b2 : (t184 == 82000000 && (t185 == 82010000)) = true := by simpa using c76))
          clear c76
          (first | rw [c76b0] | (simp only [i64_w, i32_w]; rw [c76b0]) | skip)
          by_cases c77 : (t188 == 90000000 && (t189 == 90001000)) = true
          ·rw [if_pos c77] at H
           have c77b0 : (t188 == 90000000 && (t189 == 90001000)) = true := c77
           (try (have c77b1 : decide (t188 = 90000000 && (t189 == 90001000)) = true := by simpa using c77))
           (try (have c77b2 : (t188 == 90000000 && (t189 == 90001000)) = true := by simpa using c77))
           clear c77
           by_cases c78 : (t192 == 82000000 && (t193 == 83000000)) = true
           ·rw [if_pos c78] at H
            have c78b0 : (t192 == 82000000 && (t193 == 83000000)) = true := c78
            (try (have c78b1 : decide (t192 = 82000000 && (t193 == 83000000)) = true := by simpa using c78))
            (try (have c78b2 : (t192 == 82000000 && (t193 == 83000000)) = true := by simpa using c78))
            clear c78
            have H' := Aside0.mk H
            clear H
            have hnb79 := NB187_191.out
            have hnc79 := NB191_187.out
            have hnb80 := NB187_195.out
            have hnc80 := NB195_187.out
            have hnb81 := NB187_199.out
            have hnc81 := NB199_187.out
            have hcz82_0 : wc.cell? ⟨gb187, 0, none⟩ = some (.int .i64 t184) := (blk_cell BK187.out 0).trans rfl
            have hcz82_1 : wc.cell? ⟨gb187, 1, none⟩ = some (.int .i64 t185) := (blk_cell BK187.out 1).trans rfl
            have hfz82_0 := blk_frozen BK187.out 0
            have hfz82_1 := blk_frozen BK187.out 1
            have hnb83 := NB191_195.out
            have hnc83 := NB195_191.out
            have hnb84 := NB191_199.out
            have hnc84 := NB199_191.out
            have hcz85_0 : wc.cell? ⟨gb191, 0, none⟩ = some (.int .i64 t188) := (blk_cell BK191.out 0).trans rfl
            have hcz85_1 : wc.cell? ⟨gb191, 1, none⟩ = some (.int .i64 t189) := (blk_cell BK191.out 1).trans rfl
            have hfz85_0 := blk_frozen BK191.out 0
            have hfz85_1 := blk_frozen BK191.out 1
            have hnb86 := NB195_199.out
            have hnc86 := NB199_195.out
            have hcz87_0 : wc.cell? ⟨gb195, 0, none⟩ = some (.int .i64 t192) := (blk_cell BK195.out 0).trans rfl
            have hcz87_1 : wc.cell? ⟨gb195, 1, none⟩ = some (.int .i64 t193) := (blk_cell BK195.out 1).trans rfl
            have hfz87_0 := blk_frozen BK195.out 0
            have hfz87_1 := blk_frozen BK195.out 1
            have hcz88_0 : wc.cell? ⟨gb199, 0, none⟩ = some (.int .i64 t196) := (blk_cell BK199.out 0).trans rfl
            have hcz88_1 : wc.cell? ⟨gb199, 1, none⟩ = some (.int .i64 t197) := (blk_cell BK199.out 1).trans rfl
            have hfz88_0 := blk_frozen BK199.out 0
            have hfz88_1 := blk_frozen BK199.out 1
            go_wp2
            go_meet
            case rel => exact ⟨_, ((t196 == 90000000 && (t197 == 100000000))), (zq6), H', ⟨by have := HJ8.out; have := HJ39.out; have := HJ53.out; first | omega | exact Nat.le_refl _⟩, ⟨by (with_reducible repeat (first | apply Kd.R_alloc | apply Kd.R_drewN | apply Kd.R_drew)); exact HO_1.out⟩, ⟨by (with_reducible repeat (first | refine blk_drewN ?_ _ | refine blk_drew ?_ | refine blk_alloc ?_ _)); exact BK187.out⟩, ⟨by (with_reducible repeat (first | refine blk_drewN ?_ _ | refine blk_drew ?_ | refine blk_alloc ?_ _)); exact BK191.out⟩, ⟨by (with_reducible repeat (first | refine blk_drewN ?_ _ | refine blk_drew ?_ | refine blk_alloc ?_ _)); exact BK195.out⟩, ⟨by (with_reducible repeat (first | refine blk_drewN ?_ _ | refine blk_drew ?_ | refine blk_alloc ?_ _)); exact BK199.out⟩, ⟨by repeat (first | (with_reducible first | exact HB.out | apply below_alloc | apply pw_below_drewN | apply below_drew1 | refine below_set ?_ GE187.out | refine below_set ?_ GE191.out | refine below_set ?_ GE195.out | refine below_set ?_ GE199.out) | exact HB.out)⟩⟩
           ·rw [if_neg c78] at H
            exact absurd H (by simp)
          ·rw [if_neg c77] at H
           exact absurd H (by simp)
         ·rw [if_neg c76] at H
          exact absurd H (by simp)
        case rest =>
         clear HC75
         try clear c1
         try clear c2
         try clear p2
         try clear c3
         try clear c4
         try clear c5
         try clear c6
         try clear p6
         try clear c7
         try clear c8
         try clear c11
         try clear c17
         try clear c19
         try clear c20
         try clear c24
         try clear c25
         try clear c29
         try clear c30
         try clear c31
         try clear c32
         try clear c33
         try clear c33b0
         try clear c33b1
         try clear c34
         try clear c34b0
         try clear c34b1
         try clear c35
         try clear c35b0
         try clear c35b1
         try clear c36
         try clear c36b0
         try clear c36b1
         try clear c37
         try clear c37b0
         try clear c37b1
         try clear c38
         try clear c38b0
         try clear c38b1
         try clear c39
         try clear c41
         try clear c41b0
         try clear c41b1
         try clear c42
         try clear c42b0
         try clear c42b1
         try clear c44
         try clear c46
         try clear c48
         try clear c56
         try clear c56b0
         try clear c56b1
         try clear c58
         try clear c58b0
         try clear c58b1
         try clear c60
         try clear c60b0
         try clear c60b1
         try clear c62
         try clear c62b0
         try clear c62b1
         try clear c64
         try clear c64b0
         try clear c64b1
         try clear p64
         try clear c66
         try clear c66b0
         try clear c66b1
         try clear c76
         try clear c76b0
         try clear c76b1
         try clear c76b2
         try clear c77
         try clear c77b0
         try clear c77b1
         try clear c77b2
         try clear c78
         try clear c78b0
         try clear c78b1
         try clear c78b2
         try clear c79
         try clear c80
         try clear c81
         try clear c83
         try clear c84
         try clear c86
         try clear hcz17_0
         try clear hcz17_1
         try clear hcz21_0
         try clear hcz21_1
         try clear hcz26_0
         try clear hcz26_1
         try clear hcz32_0
         try clear hcz32_1
         try clear hcz82_0
         try clear hcz82_1
         try clear hcz85_0
         try clear hcz85_1
         try clear hcz87_0
         try clear hcz87_1
         try clear hcz88_0
         try clear hcz88_1
         try clear hfz17_0
         try clear hfz17_1
         try clear hfz21_0
         try clear hfz21_1
         try clear hfz26_0
         try clear hfz26_1
         try clear hfz32_0
         try clear hfz32_1
         try clear hfz82_0
         try clear hfz82_1
         try clear hfz85_0
         try clear hfz85_1
         try clear hfz87_0
         try clear hfz87_1
         try clear hfz88_0
         try clear hfz88_1
         try clear p2
         try clear p6
         try clear p64
         obtain ⟨kq, x18_74, rfl, HA, HJ74, HO_1, BK187, BK191, BK195, BK199, HB⟩ := hcut
         cases kq with
         | zero => exact absurd HA.out (by simp [dialtonelaw12_sane.j3])
         | succ kj74 =>
          have H := HA.out
          clear HA
          simp only [dialtonelaw12_sane.j3] at H
          by_cases c89 : x16_39 = true
          ·subst c89
           rw [if_pos rfl] at H
           by_cases c90 : x17_53 = true
           ·subst c90
            rw [if_pos rfl] at H
            by_cases c91 : x18_74 = true
            ·subst c91
             rw [if_pos rfl] at H
             replace H := Option.bind_eq_some_iff.mp H
             obtain ⟨t211, A920, H⟩ := H
             try dsimp only at H
             have A92 := Aside0.mk A920
             clear A920
             by_cases c93 : t211 = true
             ·subst c93
              rw [if_pos rfl] at H
              replace H := Option.bind_eq_some_iff.mp H
              obtain ⟨t212, A940, H⟩ := H
              try dsimp only at H
              have A94 := Aside0.mk A940
              clear A940
              by_cases c95 : t212 = true
              ·subst c95
               rw [if_pos rfl] at H
               exact absurd H (by simp)
              ·replace c95 := Bool.eq_false_iff.mpr c95
               subst c95
               rw [if_neg (show ¬ (false = true) by decide)] at H
               replace H := Option.bind_eq_some_iff.mp H
               obtain ⟨t213, A960, H⟩ := H
               try dsimp only at H
               have A96 := Aside0.mk A960
               clear A960
               by_cases c97 : t213 = true
               ·subst c97
                rw [if_pos rfl] at H
                obtain ⟨y214, hy214⟩ : ∃ y_ : List (S29), y_ = (([(⟨(⟨#[50]⟩ : ByteArray), (⟨#[50, 49]⟩ : ByteArray), 4⟩ : S29)] : List (S29))) := ⟨_, rfl⟩
                replace H : ((plan_Valid.f kj74 y214).bind fun t217 => (some (!t217))) = some r := by first | (rw [hy214]; with_reducible exact H) | (have H2_ := (Option.bind_some _ _).symm.trans H; rw [hy214]; with_reducible exact H2_) | (have H2_ := (Option.bind_some _ _).symm.trans H; with_reducible exact H2_) | with_reducible exact H | (rw [hy214]; exact H) | exact H
                have Ny214 := Aside0.mk hy214
                clear hy214
                replace H := Option.bind_eq_some_iff.mp H
                obtain ⟨t217, A980, H⟩ := H
                try dsimp only at H
                have A98 := Aside0.mk A980
                clear A980
                obtain rfl := Option.some.inj H
                go_wp2_with (first | (go_at_call 23; (with_reducible refine (plan_Same.calls kj74 _ _ t175 (⟨#[50, 49, 50, 51, 52]⟩ : ByteArray) (⟨#[56, 50, 48, 48, 49, 50, 51, 52]⟩ : ByteArray) true _ ?side1 ?side2 A92.out).mono ?_); (case side1 => exact zq69); (case side2 => exact zq70); rintro e w99 ⟨rfl, hb⟩; have n0_ := Aside0.mk (Kd.R_below (zq66) hb); have n1_ := Aside0.mk (blk_below (g := gb187) (o := .cells #[.int .i64 t184, .int .i64 t185] 40 (0, 0)) (zq52) hb); have n2_ := Aside0.mk (blk_below (g := gb191) (o := .cells #[.int .i64 t188, .int .i64 t189] 40 (0, 0)) (zq58) hb); have n3_ := Aside0.mk (blk_below (g := gb195) (o := .cells #[.int .i64 t192, .int .i64 t193] 40 (0, 0)) (zq64) hb); have n4_ := Aside0.mk (blk_below (g := gb199) (o := .cells #[.int .i64 t196, .int .i64 t197] 40 (0, 0)) (zq67) hb); have n5_ := Aside0.mk (below_step (zq68) hb); clear HO_1; clear BK187; clear BK191; clear BK195; clear BK199; clear HB; have HO_1 := n0_; have BK187 := n1_; have BK191 := n2_; have BK195 := n3_; have BK199 := n4_; have HB := n5_; clear n0_ n1_ n2_ n3_ n4_ n5_; (try clear hb); (try clear hb2); (try clear hk); (try clear hi)) | (go_at_call 23; (with_reducible refine (plan_Same.calls kj74 _ _ t175 (⟨#[50, 49, 50, 51, 52]⟩ : ByteArray) (⟨#[56, 50, 48, 48, 49, 50, 51, 53]⟩ : ByteArray) false _ ?side1 ?side2 A94.out).mono ?_); (case side1 => exact zq69); (case side2 => exact zq70); rintro e w100 ⟨rfl, hb⟩; have n0_ := Aside0.mk (Kd.R_below (zq66) hb); have n1_ := Aside0.mk (blk_below (g := gb187) (o := .cells #[.int .i64 t184, .int .i64 t185] 40 (0, 0)) (zq52) hb); have n2_ := Aside0.mk (blk_below (g := gb191) (o := .cells #[.int .i64 t188, .int .i64 t189] 40 (0, 0)) (zq58) hb); have n3_ := Aside0.mk (blk_below (g := gb195) (o := .cells #[.int .i64 t192, .int .i64 t193] 40 (0, 0)) (zq64) hb); have n4_ := Aside0.mk (blk_below (g := gb199) (o := .cells #[.int .i64 t196, .int .i64 t197] 40 (0, 0)) (zq67) hb); have n5_ := Aside0.mk (below_step (zq68) hb); clear HO_1; clear BK187; clear BK191; clear BK195; clear BK199; clear HB; have HO_1 := n0_; have BK187 := n1_; have BK191 := n2_; have BK195 := n3_; have BK199 := n4_; have HB := n5_; clear n0_ n1_ n2_ n3_ n4_ n5_; (try clear hb); (try clear hb2); (try clear hk); (try clear hi)) | (go_at_call 25; (with_reducible refine (plan_Valid.calls kj74 _ _ t175 true _ ?side1 ?side2 A96.out).mono ?_); (case side1 => exact zq69); (case side2 => exact zq70); rintro e w101 ⟨rfl, hb⟩; have n0_ := Aside0.mk (Kd.R_below (zq66) hb); have n1_ := Aside0.mk (blk_below (g := gb187) (o := .cells #[.int .i64 t184, .int .i64 t185] 40 (0, 0)) (zq52) hb); have n2_ := Aside0.mk (blk_below (g := gb191) (o := .cells #[.int .i64 t188, .int .i64 t189] 40 (0, 0)) (zq58) hb); have n3_ := Aside0.mk (blk_below (g := gb195) (o := .cells #[.int .i64 t192, .int .i64 t193] 40 (0, 0)) (zq64) hb); have n4_ := Aside0.mk (blk_below (g := gb199) (o := .cells #[.int .i64 t196, .int .i64 t197] 40 (0, 0)) (zq67) hb); have n5_ := Aside0.mk (below_step (zq68) hb); clear HO_1; clear BK187; clear BK191; clear BK195; clear BK199; clear HB; have HO_1 := n0_; have BK187 := n1_; have BK191 := n2_; have BK195 := n3_; have BK199 := n4_; have HB := n5_; clear n0_ n1_ n2_ n3_ n4_ n5_; (try clear hb); (try clear hb2); (try clear hk); (try clear hi)) | ((with_reducible refine gate_dst (N := 165) rfl ?_); (try (refine gate_guard (by rfl) ?_; dsimp only)); refine Kd.R_lit k29 _ 29 ?hg (N := 165) ?hd (xs := ([(⟨(⟨#[50]⟩ : ByteArray), (⟨#[50, 49]⟩ : ByteArray), 4⟩ : S29)] : List (S29))) (inner := [.string (⟨#[50]⟩ : ByteArray), .string (⟨#[50, 49]⟩ : ByteArray), .int .i64 4]) (ok := fun _ => True) (okp := fun _ => True) ?hr ?hp (fun _ hk => hk) trivial (Below.refl _ _) (Nat.le_refl _) (by simp) ?_; (case hd => rfl); (case hg => rfl); (case hr => exact zq0); (case hp => exact (Reps.c3 (show Kd.M k29 _ _ _ (⟨(⟨#[50]⟩ : ByteArray), (⟨#[50, 49]⟩ : ByteArray), 4⟩ : S29) [.string (⟨#[50]⟩ : ByteArray), .string (⟨#[50, 49]⟩ : ByteArray), .int .i64 4] from (k29_mkM _ _ _ (⟨(⟨#[50]⟩ : ByteArray), (⟨#[50, 49]⟩ : ByteArray), 4⟩ : S29) )) (Reps.none _ _))); intro v215 w102 ho103 hb hg_ hnew_; clear hg_ hnew_; (first | rw [← Ny214.out] at ho103 | (simp only [Int.reduceToNat] at ho103; rw [← Ny214.out] at ho103)); have n0_ := Aside0.mk (Kd.R_elder' (zq66) (Kd.R_base ho103) hb); have n1_ := Aside0.mk (Kd.R_lower (Kd.R_new' ho103 (Kd.R_lt (zq66))) (below_size (zq68))); have n2_ := Aside0.mk (blk_below (g := gb187) (o := .cells #[.int .i64 t184, .int .i64 t185] 40 (0, 0)) (zq52) hb); have n3_ := Aside0.mk (blk_below (g := gb191) (o := .cells #[.int .i64 t188, .int .i64 t189] 40 (0, 0)) (zq58) hb); have n4_ := Aside0.mk (blk_below (g := gb195) (o := .cells #[.int .i64 t192, .int .i64 t193] 40 (0, 0)) (zq64) hb); have n5_ := Aside0.mk (blk_below (g := gb199) (o := .cells #[.int .i64 t196, .int .i64 t197] 40 (0, 0)) (zq67) hb); have n6_ := Aside0.mk (below_step (zq68) hb); clear HO_1; clear BK187; clear BK191; clear BK195; clear BK199; clear HB; have HO_1 := n0_; have HO216 := n1_; have BK187 := n2_; have BK191 := n3_; have BK195 := n4_; have BK199 := n5_; have HB := n6_; clear n0_ n1_ n2_ n3_ n4_ n5_ n6_; clear hb ho103; obtain ⟨Ao104, co104, eo104⟩ := Kd.R_slice HO216.out; subst eo104) | (go_at_call 25; (with_reducible refine (plan_Valid.calls kj74 _ _ y214 t217 _ ?side1 ?side2 A98.out).mono ?_); (case side1 => repeat (first | exact (Kd.R_reads' HO216.out).2.2 | (with_reducible refine Kd.C_alloc ?_ _) | (with_reducible refine Kd.C_drewN ?_ _) | (with_reducible refine Kd.C_drew ?_))); (case side2 => exact (Kd.R_reads' HO216.out).2.1); rintro e w105 ⟨rfl, hb⟩; have n0_ := Aside0.mk (Kd.R_below (zq66) hb); have n1_ := Aside0.mk (Kd.R_below (by (with_reducible repeat (first | apply Kd.R_alloc | apply Kd.R_drewN | apply Kd.R_drew)); exact HO216.out) hb); have n2_ := Aside0.mk (blk_below (g := gb187) (o := .cells #[.int .i64 t184, .int .i64 t185] 40 (0, 0)) (zq52) hb); have n3_ := Aside0.mk (blk_below (g := gb191) (o := .cells #[.int .i64 t188, .int .i64 t189] 40 (0, 0)) (zq58) hb); have n4_ := Aside0.mk (blk_below (g := gb195) (o := .cells #[.int .i64 t192, .int .i64 t193] 40 (0, 0)) (zq64) hb); have n5_ := Aside0.mk (blk_below (g := gb199) (o := .cells #[.int .i64 t196, .int .i64 t197] 40 (0, 0)) (zq67) hb); have n6_ := Aside0.mk (below_step (zq68) hb); clear HO_1; clear HO216; clear BK187; clear BK191; clear BK195; clear BK199; clear HB; have HO_1 := n0_; have HO216 := n1_; have BK187 := n2_; have BK191 := n3_; have BK195 := n4_; have BK199 := n5_; have HB := n6_; clear n0_ n1_ n2_ n3_ n4_ n5_ n6_; (try clear hb); (try clear hb2); (try clear hk); (try clear hi)))
                go_ret
                exact ⟨by first | rfl | (simp [errW_none, errW_some] <;> rfl) | (simp [*, errW_none, errW_some] <;> rfl), by repeat (first | (with_reducible first | exact HB.out | apply below_alloc | apply pw_below_drewN | apply below_drew1 | refine below_set ?_ GE187.out | refine below_set ?_ GE191.out | refine below_set ?_ GE195.out | refine below_set ?_ GE199.out) | exact HB.out)⟩
               ·replace c97 := Bool.eq_false_iff.mpr c97
                subst c97
                rw [if_neg (show ¬ (false = true) by decide)] at H
                exact absurd H (by simp)
             ·replace c93 := Bool.eq_false_iff.mpr c93
              subst c93
              rw [if_neg (show ¬ (false = true) by decide)] at H
              exact absurd H (by simp)
            ·replace c91 := Bool.eq_false_iff.mpr c91
             subst c91
             rw [if_neg (show ¬ (false = true) by decide)] at H
             exact absurd H (by simp)
           ·replace c90 := Bool.eq_false_iff.mpr c90
            subst c90
            rw [if_neg (show ¬ (false = true) by decide)] at H
            exact absurd H (by simp)
          ·replace c89 := Bool.eq_false_iff.mpr c89
           subst c89
           rw [if_neg (show ¬ (false = true) by decide)] at H
           exact absurd H (by simp)
end Go.Proofs.YtlmfoblgheepoaaGreatDoor.Pl
end
section
open Go.Proofs.YtlmfoblgheepoaaGreatDoor.Z
namespace Go.Proofs.YtlmfoblgheepoaaGreatDoor.Pl
open Go.RowKit Go.Proofs.YtlmfoblgheepoaaGreatDoorW.PrintWords Go.Proofs.YtlmfoblgheepoaaGreatDoorW.PrintLast Go.Proofs.YtlmfoblgheepoaaGreatDoorW.PrintMore
attribute [local go_sem] max2_int min2_int max_two min_two max_three min_three max_four min_four
set_option linter.unusedVariables false
set_option linter.unusedSimpArgs false
def dialtoneref12_digits.l0 : Nat → ByteArray → Int → Option (Bool)
 | 0, _, _ => none
 | k + 1, x0, x3 => if x3 < (x0.size : Int) then (if 0 ≤ x3 then (if (bt x0 x3) < 48 then (some false) else (if (bt x0 x3) > 57 then (some false) else (dialtoneref12_digits.l0 k x0 (wrap64 (x3 + 1))))) else (none)) else (some true)
def dialtoneref12_digits.f (k : Nat) (a0 : ByteArray) : Option (Bool) := dialtoneref12_digits.l0 k a0 0
set_option maxHeartbeats 8000000 in
set_option maxRecDepth 100000 in
theorem dialtoneref12_digits.calls (k : Nat) (a0 : ByteArray) (r : Bool) (w : World) (h : dialtoneref12_digits.f k a0 = some r) :
 Calls Tryz.prog 51 #[.string a0] w fun e w' => e = .returned (.bool r) ∧ Drawn0 w w' := by
 have H : (dialtoneref12_digits.l0 k a0 0) = some r := h
 clear h
 have H' := Aside0.mk H
 clear H
 go_enter Tryz.func51, Tryz.ntmps51
 go_wp2
 go_loopg [3] k (fun kq v3 w' => ∃ (x3_1 : Int), v3 = .int .i64 x3_1 ∧ Aside0 (dialtoneref12_digits.l0 kq a0 x3_1 = some r) ∧ Aside0 (kq ≤ k) ∧ Drawn0 w w')
 case atStart => exact ⟨(0), (zq6), H', ⟨Nat.le_refl _⟩, by repeat (first | exact Drawn0.refl _ | apply Drawn0.step)⟩
 case round =>
  clear H'
  obtain ⟨x3_1, rfl, HA, HK1, ⟨m1, rfl⟩⟩ := hrel
  cases gk with
  | zero => exact absurd HA.out (by simp [dialtoneref12_digits.l0])
  | succ k1 =>
   have H := HA.out
   clear HA
   simp only [dialtoneref12_digits.l0] at H
   by_cases c2 : x3_1 < (a0.size : Int)
   ·rw [if_pos c2] at H
    have c2b0 : decide (x3_1 < (a0.size : Int)) = true := decide_eq_true c2
    clear c2
    by_cases c3 : 0 ≤ x3_1
    ·rw [if_pos c3] at H
     have c3b0 : decide (0 ≤ x3_1) = true := decide_eq_true c3
     clear c3
     by_cases c5 : (bt a0 x3_1) < 48
     ·rw [if_pos c5] at H
      have c5b0 : decide ((bt a0 x3_1) < 48) = true := decide_eq_true c5
      clear c5
      obtain rfl := Option.some.inj H
      have p4 : 0 ≤ (x3_1 : Int) := of_decide_eq_true (zq14)
      have q4 : x3_1 < (a0.size : Int) := of_decide_eq_true (zq14)
      have hx4 := bt_at a0 x3_1
      replace p4 := eq_true p4
      replace q4 := eq_true q4
      go_wp2
      go_ret
      exact ⟨by first | rfl | (simp; done) | (simp [*]; done), by repeat (first | exact Drawn0.refl _ | apply Drawn0.step)⟩
     ·rw [if_neg c5] at H
      have c5b0 : decide ((bt a0 x3_1) < 48) = false := decide_eq_false c5
      clear c5
      by_cases c7 : (bt a0 x3_1) > 57
      ·rw [if_pos c7] at H
       have c7b0 : decide (57 < (bt a0 x3_1)) = true := decide_eq_true c7
       clear c7
       obtain rfl := Option.some.inj H
       have p4 : 0 ≤ (x3_1 : Int) := of_decide_eq_true (zq14)
       have q4 : x3_1 < (a0.size : Int) := of_decide_eq_true (zq14)
       have hx4 := bt_at a0 x3_1
       replace p4 := eq_true p4
       replace q4 := eq_true q4
       have p6 : 0 ≤ (x3_1 : Int) := of_decide_eq_true (zq14)
       have q6 : x3_1 < (a0.size : Int) := of_decide_eq_true (zq14)
       have hx6 := bt_at a0 x3_1
       replace p6 := eq_true p6
       replace q6 := eq_true q6
       go_wp2
       go_ret
       exact ⟨by first | rfl | (simp; done) | (simp [*]; done), by repeat (first | exact Drawn0.refl _ | apply Drawn0.step)⟩
      ·rw [if_neg c7] at H
       have c7b0 : decide (57 < (bt a0 x3_1)) = false := decide_eq_false c7
       clear c7
       have H' := Aside0.mk H
       clear H
       have p4 : 0 ≤ (x3_1 : Int) := of_decide_eq_true (zq14)
       have q4 : x3_1 < (a0.size : Int) := of_decide_eq_true (zq14)
       have hx4 := bt_at a0 x3_1
       replace p4 := eq_true p4
       replace q4 := eq_true q4
       have p6 : 0 ≤ (x3_1 : Int) := of_decide_eq_true (zq14)
       have q6 : x3_1 < (a0.size : Int) := of_decide_eq_true (zq14)
       have hx6 := bt_at a0 x3_1
       replace p6 := eq_true p6
       replace q6 := eq_true q6
       go_wp2
       go_roundg k1
       case measure => have := HK1.out; omega
       case rel => exact ⟨(wrap64 (x3_1 + 1)), (zq6), H', ⟨by have := HK1.out; omega⟩, by repeat (first | exact Drawn0.refl _ | apply Drawn0.step)⟩
    ·rw [if_neg c3] at H
     exact absurd H (by simp)
   ·rw [if_neg c2] at H
    have c2b0 : decide (x3_1 < (a0.size : Int)) = false := decide_eq_false c2
    clear c2
    obtain rfl := Option.some.inj H
    go_wp2
    go_ret
    exact ⟨by first | rfl | (simp; done) | (simp [*]; done), by repeat (first | exact Drawn0.refl _ | apply Drawn0.step)⟩
def dialtoneref12_begins.f (a0 : ByteArray) (a1 : ByteArray) : Option (Bool) := if (a0.size : Int) ≤ (a1.size : Int) then (if 0 ≤ (a0.size : Int) then (some ((a1.extract 0 ((a0.size : Int) : Int).toNat).toList == a0.toList)) else (none)) else (some false)
set_option maxHeartbeats 8000000 in
set_option maxRecDepth 100000 in
theorem dialtoneref12_begins.calls (a0 : ByteArray) (a1 : ByteArray) (r : Bool) (w : World) (h : dialtoneref12_begins.f a0 a1 = some r) :
 Calls Tryz.prog 52 #[.string a0, .string a1] w fun e w' => e = .returned (.bool r) ∧ Drawn0 w w' := by
 have H : (if (a0.size : Int) ≤ (a1.size : Int) then (if 0 ≤ (a0.size : Int) then (some ((a1.extract 0 ((a0.size : Int) : Int).toNat).toList == a0.toList)) else (none)) else (some false)) = some r := h
 clear h
 by_cases c3 : (a0.size : Int) ≤ (a1.size : Int)
 ·rw [if_pos c3] at H
  have c3b0 : decide ((a0.size : Int) ≤ (a1.size : Int)) = true := decide_eq_true c3
  have c3b1 : decide (a0.size ≤ a1.size) = true := decide_eq_true (Int.ofNat_le.mp c3)
  clear c3
  by_cases c4 : 0 ≤ (a0.size : Int)
  ·rw [if_pos c4] at H
   have c4b0 := eq_true c4
   have c4b1 : decide (0 ≤ (a0.size : Int)) = true := decide_eq_true c4
   clear c4
   have c5b0 := eq_true (of_decide_eq_true (zq14) : (a0.size : Int) ≤ (a1.size : Int))
   obtain rfl := Option.some.inj H
   go_enter Tryz.func52, Tryz.ntmps52
   go_wp2
   go_ret
   exact ⟨by first | rfl | (simp; done) | (simp [*]; done), by repeat (first | exact Drawn0.refl _ | apply Drawn0.step)⟩
  ·rw [if_neg c4] at H
   exact absurd H (by simp)
 ·rw [if_neg c3] at H
  have c3b0 : decide ((a0.size : Int) ≤ (a1.size : Int)) = false := decide_eq_false c3
  have c3b1 : decide (a0.size ≤ a1.size) = false := decide_eq_false (fun h => c3 (Int.ofNat_le.mpr h))
  clear c3
  obtain rfl := Option.some.inj H
  go_enter Tryz.func52, Tryz.ntmps52
  go_wp2
  go_ret
  exact ⟨by first | rfl | (simp; done) | (simp [*]; done), by repeat (first | exact Drawn0.refl _ | apply Drawn0.step)⟩
def dialtoneref12_apart.f (a0 : ByteArray) (a1 : ByteArray) : Option (Bool) := (dialtoneref12_begins.f a0 a1).bind fun t218 => (if t218 = true then (some false) else ((dialtoneref12_begins.f a1 a0).bind fun t219 => (some (!t219))))
set_option maxHeartbeats 8000000 in
set_option maxRecDepth 100000 in
theorem dialtoneref12_apart.calls (a0 : ByteArray) (a1 : ByteArray) (r : Bool) (w : World) (h : dialtoneref12_apart.f a0 a1 = some r) :
 Calls Tryz.prog 59 #[.string a0, .string a1] w fun e w' => e = .returned (.bool r) ∧ Drawn0 w w' := by
 have H : ((dialtoneref12_begins.f a0 a1).bind fun t218 => (if t218 = true then (some false) else ((dialtoneref12_begins.f a1 a0).bind fun t219 => (some (!t219))))) = some r := h
 clear h
 replace H := Option.bind_eq_some_iff.mp H
 obtain ⟨t218, A30, H⟩ := H
 try dsimp only at H
 have A3 := Aside0.mk A30
 clear A30
 by_cases c4 : t218 = true
 ·subst c4
  rw [if_pos rfl] at H
  obtain rfl := Option.some.inj H
  go_enter Tryz.func59, Tryz.ntmps59
  go_wp2_with (first | ((with_reducible refine gate_callee (f := 52) rfl ?_); refine goesL_ (some 7) rfl rfl Tryz.func52 (by kernel_rfl) rfl #[.string a0, .string a1] rfl (zq3) ?_; (with_reducible refine (dialtoneref12_begins.calls a0 a1 true _ A3.out).mono ?_); rintro e w' ⟨rfl, ⟨nd, rfl⟩⟩; refine ⟨_, rfl, ?_⟩))
  go_ret
  exact ⟨by first | rfl | (simp; done) | (simp [*]; done), by repeat (first | exact Drawn0.refl _ | apply Drawn0.step)⟩
 ·replace c4 := Bool.eq_false_iff.mpr c4
  subst c4
  rw [if_neg (show ¬ (false = true) by decide)] at H
  replace H := Option.bind_eq_some_iff.mp H
  obtain ⟨t219, A50, H⟩ := H
  try dsimp only at H
  have A5 := Aside0.mk A50
  clear A50
  obtain rfl := Option.some.inj H
  go_enter Tryz.func59, Tryz.ntmps59
  go_wp2_with (first | ((with_reducible refine gate_callee (f := 52) rfl ?_); refine goesL_ (some 7) rfl rfl Tryz.func52 (by kernel_rfl) rfl #[.string a0, .string a1] rfl (zq3) ?_; (with_reducible refine (dialtoneref12_begins.calls a0 a1 false _ A3.out).mono ?_); rintro e w' ⟨rfl, ⟨nd, rfl⟩⟩; refine ⟨_, rfl, ?_⟩) | (go_at_call 52; (with_reducible refine (dialtoneref12_begins.calls a1 a0 t219 _ A5.out).mono ?_); rintro e w' ⟨rfl, ⟨nd, rfl⟩⟩))
  go_ret
  exact ⟨by first | rfl | (simp; done) | (simp [*]; done), by repeat (first | exact Drawn0.refl _ | apply Drawn0.step)⟩
def dialtoneref12_one.f (k : Nat) (a0_0 : ByteArray) (a0_1 : ByteArray) (a0_2 : Int) : Option (Bool) := (dialtoneref12_digits.f k a0_0).bind fun t221 => (if t221 = true then ((dialtoneref12_digits.f k a0_1).bind fun t222 => (if t222 = true then (if (a0_0.size : Int) < 1 then (some false) else (if (a0_0.size : Int) > 4 then (some false) else (if (a0_1.size : Int) < 1 then (some false) else (if (a0_1.size : Int) > 5 then (some false) else (if a0_2 > (a0_0.size : Int) then (if a0_2 ≤ 7 then (if (wrap64 (a0_2 - (a0_0.size : Int))) ≤ (wrap64 (8 - (a0_1.size : Int))) then ((dialtoneref12_apart.f a0_0 a0_1).bind fun t223 => (some t223)) else (some false)) else (some false)) else (some false)))))) else (some false))) else (some false))
set_option maxHeartbeats 8000000 in
set_option maxRecDepth 100000 in
theorem dialtoneref12_one.calls (k : Nat) (a0_0 : ByteArray) (a0_1 : ByteArray) (a0_2 : Int) (r : Bool) (w : World) (h : dialtoneref12_one.f k a0_0 a0_1 a0_2 = some r) :
 Calls Tryz.prog 58 #[.agg #[.string a0_0, .string a0_1, .int .i64 a0_2]] w fun e w' => e = .returned (.bool r) ∧ Below w.heap.size w w' := by
 have hu29 := Tryz.underlying29
 have HB := Aside0.mk (Below.refl w.heap.size w)
 have H : ((dialtoneref12_digits.f k a0_0).bind fun t221 => (if t221 = true then ((dialtoneref12_digits.f k a0_1).bind fun t222 => (if t222 = true then (if (a0_0.size : Int) < 1 then (some false) else (if (a0_0.size : Int) > 4 then (some false) else (if (a0_1.size : Int) < 1 then (some false) else (if (a0_1.size : Int) > 5 then (some false) else (if a0_2 > (a0_0.size : Int) then (if a0_2 ≤ 7 then (if (wrap64 (a0_2 - (a0_0.size : Int))) ≤ (wrap64 (8 - (a0_1.size : Int))) then ((dialtoneref12_apart.f a0_0 a0_1).bind fun t223 => (some t223)) else (some false)) else (some false)) else (some false)))))) else (some false))) else (some false))) = some r := h
 clear h
 replace H := Option.bind_eq_some_iff.mp H
 obtain ⟨t221, A20, H⟩ := H
 try dsimp only at H
 have A2 := Aside0.mk A20
 clear A20
 by_cases c3 : t221 = true
 ·subst c3
  rw [if_pos rfl] at H
  replace H := Option.bind_eq_some_iff.mp H
  obtain ⟨t222, A40, H⟩ := H
  try dsimp only at H
  have A4 := Aside0.mk A40
  clear A40
  by_cases c5 : t222 = true
  ·subst c5
   rw [if_pos rfl] at H
   by_cases c6 : (a0_0.size : Int) < 1
   ·rw [if_pos c6] at H
    have c6b0 : decide ((a0_0.size : Int) < 1) = true := decide_eq_true c6
    have c6b1 : decide (a0_0.size < 1) = true := decide_eq_true (by omega)
    clear c6
    obtain rfl := Option.some.inj H
    go_enter Tryz.func58, Tryz.ntmps58
    go_wp2_with (first | ((with_reducible refine gate_dst (N := 1) rfl ?_); (try (refine gate_guard (by rfl) ?_; dsimp only)); refine box_event ?hg (N := 1) ?hd (cs := #[.string a0_0, .string a0_1, .int .i64 a0_2]) (t := 29) ?hr ?_; (case hd => rfl); (case hg => rfl); (case hr => exact zq0); intro gb220 hg w7 hbox hb; have n0_ := Aside0.mk (below_step (zq1) hb); have n1_ := Aside0.mk (hbox); have n2_ := Aside0.mk ((zq2 : w.heap.size ≤ gb220)); have n3_ := Aside0.mk ((zq2 : w.heap.size ≤ gb220)); clear HB; have HB := n0_; have BK220 := n1_; have GW220 := n2_; have GE220 := n3_; clear n0_ n1_ n2_ n3_; clear hb hbox hg; have hcz8_0 : w7.cell? ⟨gb220, 0, none⟩ = some (.string a0_0) := (blk_cell BK220.out 0).trans rfl; have hcz8_1 : w7.cell? ⟨gb220, 1, none⟩ = some (.string a0_1) := (blk_cell BK220.out 1).trans rfl; have hcz8_2 : w7.cell? ⟨gb220, 2, none⟩ = some (.int .i64 a0_2) := (blk_cell BK220.out 2).trans rfl; have hfz8_0 := blk_frozen BK220.out 0; have hfz8_1 := blk_frozen BK220.out 1; have hfz8_2 := blk_frozen BK220.out 2) | ((with_reducible refine gate_callee (f := 51) rfl ?_); refine goesL_ (some 5) rfl rfl Tryz.func51 (by kernel_rfl) rfl #[.string a0_0] rfl (zq3) ?_; (with_reducible refine (dialtoneref12_digits.calls k a0_0 true _ A2.out).mono ?_); rintro e w' ⟨rfl, ⟨nd, rfl⟩⟩; refine ⟨_, rfl, ?_⟩) | (go_at_call 51; (with_reducible refine (dialtoneref12_digits.calls k a0_1 true _ A4.out).mono ?_); rintro e w' ⟨rfl, ⟨nd, rfl⟩⟩))
    go_ret
    exact ⟨by first | rfl | (simp [errW_none, errW_some] <;> rfl) | (simp [*, errW_none, errW_some] <;> rfl), by repeat (first | (with_reducible first | exact HB.out | apply below_alloc | apply pw_below_drewN | apply below_drew1 | refine below_set ?_ GE220.out) | exact HB.out)⟩
   ·rw [if_neg c6] at H
    have c6b0 : decide ((a0_0.size : Int) < 1) = false := decide_eq_false c6
    have c6b1 : decide (a0_0.size < 1) = false := decide_eq_false (by omega)
    clear c6
    by_cases c9 : (a0_0.size : Int) > 4
    ·rw [if_pos c9] at H
     have c9b0 : decide (4 < (a0_0.size : Int)) = true := decide_eq_true c9
     have c9b1 : decide (4 < a0_0.size) = true := decide_eq_true (by omega)
     clear c9
     obtain rfl := Option.some.inj H
     go_enter Tryz.func58, Tryz.ntmps58
     go_wp2_with (first | ((with_reducible refine gate_dst (N := 1) rfl ?_); (try (refine gate_guard (by rfl) ?_; dsimp only)); refine box_event ?hg (N := 1) ?hd (cs := #[.string a0_0, .string a0_1, .int .i64 a0_2]) (t := 29) ?hr ?_; (case hd => rfl); (case hg => rfl); (case hr => exact zq0); intro gb220 hg w10 hbox hb; have n0_ := Aside0.mk (below_step (zq1) hb); have n1_ := Aside0.mk (hbox); have n2_ := Aside0.mk ((zq2 : w.heap.size ≤ gb220)); have n3_ := Aside0.mk ((zq2 : w.heap.size ≤ gb220)); clear HB; have HB := n0_; have BK220 := n1_; have GW220 := n2_; have GE220 := n3_; clear n0_ n1_ n2_ n3_; clear hb hbox hg; have hcz11_0 : w10.cell? ⟨gb220, 0, none⟩ = some (.string a0_0) := (blk_cell BK220.out 0).trans rfl; have hcz11_1 : w10.cell? ⟨gb220, 1, none⟩ = some (.string a0_1) := (blk_cell BK220.out 1).trans rfl; have hcz11_2 : w10.cell? ⟨gb220, 2, none⟩ = some (.int .i64 a0_2) := (blk_cell BK220.out 2).trans rfl; have hfz11_0 := blk_frozen BK220.out 0; have hfz11_1 := blk_frozen BK220.out 1; have hfz11_2 := blk_frozen BK220.out 2) | ((with_reducible refine gate_callee (f := 51) rfl ?_); refine goesL_ (some 5) rfl rfl Tryz.func51 (by kernel_rfl) rfl #[.string a0_0] rfl (zq3) ?_; (with_reducible refine (dialtoneref12_digits.calls k a0_0 true _ A2.out).mono ?_); rintro e w' ⟨rfl, ⟨nd, rfl⟩⟩; refine ⟨_, rfl, ?_⟩) | (go_at_call 51; (with_reducible refine (dialtoneref12_digits.calls k a0_1 true _ A4.out).mono ?_); rintro e w' ⟨rfl, ⟨nd, rfl⟩⟩))
     go_ret
     exact ⟨by first | rfl | (simp [errW_none, errW_some] <;> rfl) | (simp [*, errW_none, errW_some] <;> rfl), by repeat (first | (with_reducible first | exact HB.out | apply below_alloc | apply pw_below_drewN | apply below_drew1 | refine below_set ?_ GE220.out) | exact HB.out)⟩
    ·rw [if_neg c9] at H
     have c9b0 : decide (4 < (a0_0.size : Int)) = false := decide_eq_false c9
     have c9b1 : decide (4 < a0_0.size) = false := decide_eq_false (by omega)
     clear c9
     by_cases c12 : (a0_1.size : Int) < 1
     ·rw [if_pos c12] at H
      have c12b0 : decide ((a0_1.size : Int) < 1) = true := decide_eq_true c12
      have c12b1 : decide (a0_1.size < 1) = true := decide_eq_true (by omega)
      clear c12
      obtain rfl := Option.some.inj H
      go_enter Tryz.func58, Tryz.ntmps58
      go_wp2_with (first | ((with_reducible refine gate_dst (N := 1) rfl ?_); (try (refine gate_guard (by rfl) ?_; dsimp only)); refine box_event ?hg (N := 1) ?hd (cs := #[.string a0_0, .string a0_1, .int .i64 a0_2]) (t := 29) ?hr ?_; (case hd => rfl); (case hg => rfl); (case hr => exact zq0); intro gb220 hg w13 hbox hb; have n0_ := Aside0.mk (below_step (zq1) hb); have n1_ := Aside0.mk (hbox); have n2_ := Aside0.mk ((zq2 : w.heap.size ≤ gb220)); have n3_ := Aside0.mk ((zq2 : w.heap.size ≤ gb220)); clear HB; have HB := n0_; have BK220 := n1_; have GW220 := n2_; have GE220 := n3_; clear n0_ n1_ n2_ n3_; clear hb hbox hg; have hcz14_0 : w13.cell? ⟨gb220, 0, none⟩ = some (.string a0_0) := (blk_cell BK220.out 0).trans rfl; have hcz14_1 : w13.cell? ⟨gb220, 1, none⟩ = some (.string a0_1) := (blk_cell BK220.out 1).trans rfl; have hcz14_2 : w13.cell? ⟨gb220, 2, none⟩ = some (.int .i64 a0_2) := (blk_cell BK220.out 2).trans rfl; have hfz14_0 := blk_frozen BK220.out 0; have hfz14_1 := blk_frozen BK220.out 1; have hfz14_2 := blk_frozen BK220.out 2) | ((with_reducible refine gate_callee (f := 51) rfl ?_); refine goesL_ (some 5) rfl rfl Tryz.func51 (by kernel_rfl) rfl #[.string a0_0] rfl (zq3) ?_; (with_reducible refine (dialtoneref12_digits.calls k a0_0 true _ A2.out).mono ?_); rintro e w' ⟨rfl, ⟨nd, rfl⟩⟩; refine ⟨_, rfl, ?_⟩) | (go_at_call 51; (with_reducible refine (dialtoneref12_digits.calls k a0_1 true _ A4.out).mono ?_); rintro e w' ⟨rfl, ⟨nd, rfl⟩⟩))
      go_ret
      exact ⟨by first | rfl | (simp [errW_none, errW_some] <;> rfl) | (simp [*, errW_none, errW_some] <;> rfl), by repeat (first | (with_reducible first | exact HB.out | apply below_alloc | apply pw_below_drewN | apply below_drew1 | refine below_set ?_ GE220.out) | exact HB.out)⟩
     ·rw [if_neg c12] at H
      have c12b0 : decide ((a0_1.size : Int) < 1) = false := decide_eq_false c12
      have c12b1 : decide (a0_1.size < 1) = false := decide_eq_false (by omega)
      clear c12
      by_cases c15 : (a0_1.size : Int) > 5
      ·rw [if_pos c15] at H
       have c15b0 : decide (5 < (a0_1.size : Int)) = true := decide_eq_true c15
       have c15b1 : decide (5 < a0_1.size) = true := decide_eq_true (by omega)
       clear c15
       obtain rfl := Option.some.inj H
       go_enter Tryz.func58, Tryz.ntmps58
       go_wp2_with (first | ((with_reducible refine gate_dst (N := 1) rfl ?_); (try (refine gate_guard (by rfl) ?_; dsimp only)); refine box_event ?hg (N := 1) ?hd (cs := #[.string a0_0, .string a0_1, .int .i64 a0_2]) (t := 29) ?hr ?_; (case hd => rfl); (case hg => rfl); (case hr => exact zq0); intro gb220 hg w16 hbox hb; have n0_ := Aside0.mk (below_step (zq1) hb); have n1_ := Aside0.mk (hbox); have n2_ := Aside0.mk ((zq2 : w.heap.size ≤ gb220)); have n3_ := Aside0.mk ((zq2 : w.heap.size ≤ gb220)); clear HB; have HB := n0_; have BK220 := n1_; have GW220 := n2_; have GE220 := n3_; clear n0_ n1_ n2_ n3_; clear hb hbox hg; have hcz17_0 : w16.cell? ⟨gb220, 0, none⟩ = some (.string a0_0) := (blk_cell BK220.out 0).trans rfl; have hcz17_1 : w16.cell? ⟨gb220, 1, none⟩ = some (.string a0_1) := (blk_cell BK220.out 1).trans rfl; have hcz17_2 : w16.cell? ⟨gb220, 2, none⟩ = some (.int .i64 a0_2) := (blk_cell BK220.out 2).trans rfl; have hfz17_0 := blk_frozen BK220.out 0; have hfz17_1 := blk_frozen BK220.out 1; have hfz17_2 := blk_frozen BK220.out 2) | ((with_reducible refine gate_callee (f := 51) rfl ?_); refine goesL_ (some 5) rfl rfl Tryz.func51 (by kernel_rfl) rfl #[.string a0_0] rfl (zq3) ?_; (with_reducible refine (dialtoneref12_digits.calls k a0_0 true _ A2.out).mono ?_); rintro e w' ⟨rfl, ⟨nd, rfl⟩⟩; refine ⟨_, rfl, ?_⟩) | (go_at_call 51; (with_reducible refine (dialtoneref12_digits.calls k a0_1 true _ A4.out).mono ?_); rintro e w' ⟨rfl, ⟨nd, rfl⟩⟩))
       go_ret
       exact ⟨by first | rfl | (simp [errW_none, errW_some] <;> rfl) | (simp [*, errW_none, errW_some] <;> rfl), by repeat (first | (with_reducible first | exact HB.out | apply below_alloc | apply pw_below_drewN | apply below_drew1 | refine below_set ?_ GE220.out) | exact HB.out)⟩
      ·rw [if_neg c15] at H
       have c15b0 : decide (5 < (a0_1.size : Int)) = false := decide_eq_false c15
       have c15b1 : decide (5 < a0_1.size) = false := decide_eq_false (by omega)
       clear c15
       by_cases c18 : a0_2 > (a0_0.size : Int)
       ·rw [if_pos c18] at H
        have c18b0 : decide ((a0_0.size : Int) < a0_2) = true := decide_eq_true c18
        clear c18
        by_cases c19 : a0_2 ≤ 7
        ·rw [if_pos c19] at H
         have c19b0 : decide (a0_2 ≤ 7) = true := decide_eq_true c19
         clear c19
         by_cases c20 : (wrap64 (a0_2 - (a0_0.size : Int))) ≤ (wrap64 (8 - (a0_1.size : Int)))
         ·rw [if_pos c20] at H
          have c20b0 : decide ((wrap64 (a0_2 - (a0_0.size : Int))) ≤ (wrap64 (8 - (a0_1.size : Int)))) = true := decide_eq_true c20
          clear c20
          replace H := Option.bind_eq_some_iff.mp H
          obtain ⟨t223, A210, H⟩ := H
          try dsimp only at H
          have A21 := Aside0.mk A210
          clear A210
          obtain rfl := Option.some.inj H
          go_enter Tryz.func58, Tryz.ntmps58
          go_wp2_with (first | ((with_reducible refine gate_dst (N := 1) rfl ?_); (try (refine gate_guard (by rfl) ?_; dsimp only)); refine box_event ?hg (N := 1) ?hd (cs := #[.string a0_0, .string a0_1, .int .i64 a0_2]) (t := 29) ?hr ?_; (case hd => rfl); (case hg => rfl); (case hr => exact zq0); intro gb220 hg w22 hbox hb; have n0_ := Aside0.mk (below_step (zq1) hb); have n1_ := Aside0.mk (hbox); have n2_ := Aside0.mk ((zq2 : w.heap.size ≤ gb220)); have n3_ := Aside0.mk ((zq2 : w.heap.size ≤ gb220)); clear HB; have HB := n0_; have BK220 := n1_; have GW220 := n2_; have GE220 := n3_; clear n0_ n1_ n2_ n3_; clear hb hbox hg; have hcz23_0 : w22.cell? ⟨gb220, 0, none⟩ = some (.string a0_0) := (blk_cell BK220.out 0).trans rfl; have hcz23_1 : w22.cell? ⟨gb220, 1, none⟩ = some (.string a0_1) := (blk_cell BK220.out 1).trans rfl; have hcz23_2 : w22.cell? ⟨gb220, 2, none⟩ = some (.int .i64 a0_2) := (blk_cell BK220.out 2).trans rfl; have hfz23_0 := blk_frozen BK220.out 0; have hfz23_1 := blk_frozen BK220.out 1; have hfz23_2 := blk_frozen BK220.out 2) | ((with_reducible refine gate_callee (f := 51) rfl ?_); refine goesL_ (some 5) rfl rfl Tryz.func51 (by kernel_rfl) rfl #[.string a0_0] rfl (zq3) ?_; (with_reducible refine (dialtoneref12_digits.calls k a0_0 true _ A2.out).mono ?_); rintro e w' ⟨rfl, ⟨nd, rfl⟩⟩; refine ⟨_, rfl, ?_⟩) | (go_at_call 51; (with_reducible refine (dialtoneref12_digits.calls k a0_1 true _ A4.out).mono ?_); rintro e w' ⟨rfl, ⟨nd, rfl⟩⟩) | (go_at_call 59; (with_reducible refine (dialtoneref12_apart.calls a0_0 a0_1 t223 _ A21.out).mono ?_); rintro e w' ⟨rfl, ⟨nd, rfl⟩⟩))
          go_ret
          exact ⟨by first | rfl | (simp [errW_none, errW_some] <;> rfl) | (simp [*, errW_none, errW_some] <;> rfl), by repeat (first | (with_reducible first | exact HB.out | apply below_alloc | apply pw_below_drewN | apply below_drew1 | refine below_set ?_ GE220.out) | exact HB.out)⟩
         ·rw [if_neg c20] at H
          have c20b0 : decide ((wrap64 (a0_2 - (a0_0.size : Int))) ≤ (wrap64 (8 - (a0_1.size : Int)))) = false := decide_eq_false c20
          clear c20
          obtain rfl := Option.some.inj H
          go_enter Tryz.func58, Tryz.ntmps58
          go_wp2_with (first | ((with_reducible refine gate_dst (N := 1) rfl ?_); (try (refine gate_guard (by rfl) ?_; dsimp only)); refine box_event ?hg (N := 1) ?hd (cs := #[.string a0_0, .string a0_1, .int .i64 a0_2]) (t := 29) ?hr ?_; (case hd => rfl); (case hg => rfl); (case hr => exact zq0); intro gb220 hg w24 hbox hb; have n0_ := Aside0.mk (below_step (zq1) hb); have n1_ := Aside0.mk (hbox); have n2_ := Aside0.mk ((zq2 : w.heap.size ≤ gb220)); have n3_ := Aside0.mk ((zq2 : w.heap.size ≤ gb220)); clear HB; have HB := n0_; have BK220 := n1_; have GW220 := n2_; have GE220 := n3_; clear n0_ n1_ n2_ n3_; clear hb hbox hg; have hcz25_0 : w24.cell? ⟨gb220, 0, none⟩ = some (.string a0_0) := (blk_cell BK220.out 0).trans rfl; have hcz25_1 : w24.cell? ⟨gb220, 1, none⟩ = some (.string a0_1) := (blk_cell BK220.out 1).trans rfl; have hcz25_2 : w24.cell? ⟨gb220, 2, none⟩ = some (.int .i64 a0_2) := (blk_cell BK220.out 2).trans rfl; have hfz25_0 := blk_frozen BK220.out 0; have hfz25_1 := blk_frozen BK220.out 1; have hfz25_2 := blk_frozen BK220.out 2) | ((with_reducible refine gate_callee (f := 51) rfl ?_); refine goesL_ (some 5) rfl rfl Tryz.func51 (by kernel_rfl) rfl #[.string a0_0] rfl (zq3) ?_; (with_reducible refine (dialtoneref12_digits.calls k a0_0 true _ A2.out).mono ?_); rintro e w' ⟨rfl, ⟨nd, rfl⟩⟩; refine ⟨_, rfl, ?_⟩) | (go_at_call 51; (with_reducible refine (dialtoneref12_digits.calls k a0_1 true _ A4.out).mono ?_); rintro e w' ⟨rfl, ⟨nd, rfl⟩⟩))
          go_ret
          exact ⟨by first | rfl | (simp [errW_none, errW_some] <;> rfl) | (simp [*, errW_none, errW_some] <;> rfl), by repeat (first | (with_reducible first | exact HB.out | apply below_alloc | apply pw_below_drewN | apply below_drew1 | refine below_set ?_ GE220.out) | exact HB.out)⟩
        ·rw [if_neg c19] at H
         have c19b0 : decide (a0_2 ≤ 7) = false := decide_eq_false c19
         clear c19
         obtain rfl := Option.some.inj H
         go_enter Tryz.func58, Tryz.ntmps58
         go_wp2_with (first | ((with_reducible refine gate_dst (N := 1) rfl ?_); (try (refine gate_guard (by rfl) ?_; dsimp only)); refine box_event ?hg (N := 1) ?hd (cs := #[.string a0_0, .string a0_1, .int .i64 a0_2]) (t := 29) ?hr ?_; (case hd => rfl); (case hg => rfl); (case hr => exact zq0); intro gb220 hg w26 hbox hb; have n0_ := Aside0.mk (below_step (zq1) hb); have n1_ := Aside0.mk (hbox); have n2_ := Aside0.mk ((zq2 : w.heap.size ≤ gb220)); have n3_ := Aside0.mk ((zq2 : w.heap.size ≤ gb220)); clear HB; have HB := n0_; have BK220 := n1_; have GW220 := n2_; have GE220 := n3_; clear n0_ n1_ n2_ n3_; clear hb hbox hg; have hcz27_0 : w26.cell? ⟨gb220, 0, none⟩ = some (.string a0_0) := (blk_cell BK220.out 0).trans rfl; have hcz27_1 : w26.cell? ⟨gb220, 1, none⟩ = some (.string a0_1) := (blk_cell BK220.out 1).trans rfl; have hcz27_2 : w26.cell? ⟨gb220, 2, none⟩ = some (.int .i64 a0_2) := (blk_cell BK220.out 2).trans rfl; have hfz27_0 := blk_frozen BK220.out 0; have hfz27_1 := blk_frozen BK220.out 1; have hfz27_2 := blk_frozen BK220.out 2) | ((with_reducible refine gate_callee (f := 51) rfl ?_); refine goesL_ (some 5) rfl rfl Tryz.func51 (by kernel_rfl) rfl #[.string a0_0] rfl (zq3) ?_; (with_reducible refine (dialtoneref12_digits.calls k a0_0 true _ A2.out).mono ?_); rintro e w' ⟨rfl, ⟨nd, rfl⟩⟩; refine ⟨_, rfl, ?_⟩) | (go_at_call 51; (with_reducible refine (dialtoneref12_digits.calls k a0_1 true _ A4.out).mono ?_); rintro e w' ⟨rfl, ⟨nd, rfl⟩⟩))
         go_ret
         exact ⟨by first | rfl | (simp [errW_none, errW_some] <;> rfl) | (simp [*, errW_none, errW_some] <;> rfl), by repeat (first | (with_reducible first | exact HB.out | apply below_alloc | apply pw_below_drewN | apply below_drew1 | refine below_set ?_ GE220.out) | exact HB.out)⟩
       ·rw [if_neg c18] at H
        have c18b0 : decide ((a0_0.size : Int) < a0_2) = false := decide_eq_false c18
        clear c18
        obtain rfl := Option.some.inj H
        go_enter Tryz.func58, Tryz.ntmps58
        go_wp2_with (first | ((with_reducible refine gate_dst (N := 1) rfl ?_); (try (refine gate_guard (by rfl) ?_; dsimp only)); refine box_event ?hg (N := 1) ?hd (cs := #[.string a0_0, .string a0_1, .int .i64 a0_2]) (t := 29) ?hr ?_; (case hd => rfl); (case hg => rfl); (case hr => exact zq0); intro gb220 hg w28 hbox hb; have n0_ := Aside0.mk (below_step (zq1) hb); have n1_ := Aside0.mk (hbox); have n2_ := Aside0.mk ((zq2 : w.heap.size ≤ gb220)); have n3_ := Aside0.mk ((zq2 : w.heap.size ≤ gb220)); clear HB; have HB := n0_; have BK220 := n1_; have GW220 := n2_; have GE220 := n3_; clear n0_ n1_ n2_ n3_; clear hb hbox hg; have hcz29_0 : w28.cell? ⟨gb220, 0, none⟩ = some (.string a0_0) := (blk_cell BK220.out 0).trans rfl; have hcz29_1 : w28.cell? ⟨gb220, 1, none⟩ = some (.string a0_1) := (blk_cell BK220.out 1).trans rfl; have hcz29_2 : w28.cell? ⟨gb220, 2, none⟩ = some (.int .i64 a0_2) := (blk_cell BK220.out 2).trans rfl; have hfz29_0 := blk_frozen BK220.out 0; have hfz29_1 := blk_frozen BK220.out 1; have hfz29_2 := blk_frozen BK220.out 2) | ((with_reducible refine gate_callee (f := 51) rfl ?_); refine goesL_ (some 5) rfl rfl Tryz.func51 (by kernel_rfl) rfl #[.string a0_0] rfl (zq3) ?_; (with_reducible refine (dialtoneref12_digits.calls k a0_0 true _ A2.out).mono ?_); rintro e w' ⟨rfl, ⟨nd, rfl⟩⟩; refine ⟨_, rfl, ?_⟩) | (go_at_call 51; (with_reducible refine (dialtoneref12_digits.calls k a0_1 true _ A4.out).mono ?_); rintro e w' ⟨rfl, ⟨nd, rfl⟩⟩))
        go_ret
        exact ⟨by first | rfl | (simp [errW_none, errW_some] <;> rfl) | (simp [*, errW_none, errW_some] <;> rfl), by repeat (first | (with_reducible first | exact HB.out | apply below_alloc | apply pw_below_drewN | apply below_drew1 | refine below_set ?_ GE220.out) | exact HB.out)⟩
  ·replace c5 := Bool.eq_false_iff.mpr c5
   subst c5
   rw [if_neg (show ¬ (false = true) by decide)] at H
   obtain rfl := Option.some.inj H
   go_enter Tryz.func58, Tryz.ntmps58
   go_wp2_with (first | ((with_reducible refine gate_dst (N := 1) rfl ?_); (try (refine gate_guard (by rfl) ?_; dsimp only)); refine box_event ?hg (N := 1) ?hd (cs := #[.string a0_0, .string a0_1, .int .i64 a0_2]) (t := 29) ?hr ?_; (case hd => rfl); (case hg => rfl); (case hr => exact zq0); intro gb220 hg w30 hbox hb; have n0_ := Aside0.mk (below_step (zq1) hb); have n1_ := Aside0.mk (hbox); have n2_ := Aside0.mk ((zq2 : w.heap.size ≤ gb220)); have n3_ := Aside0.mk ((zq2 : w.heap.size ≤ gb220)); clear HB; have HB := n0_; have BK220 := n1_; have GW220 := n2_; have GE220 := n3_; clear n0_ n1_ n2_ n3_; clear hb hbox hg; have hcz31_0 : w30.cell? ⟨gb220, 0, none⟩ = some (.string a0_0) := (blk_cell BK220.out 0).trans rfl; have hcz31_1 : w30.cell? ⟨gb220, 1, none⟩ = some (.string a0_1) := (blk_cell BK220.out 1).trans rfl; have hcz31_2 : w30.cell? ⟨gb220, 2, none⟩ = some (.int .i64 a0_2) := (blk_cell BK220.out 2).trans rfl; have hfz31_0 := blk_frozen BK220.out 0; have hfz31_1 := blk_frozen BK220.out 1; have hfz31_2 := blk_frozen BK220.out 2) | ((with_reducible refine gate_callee (f := 51) rfl ?_); refine goesL_ (some 5) rfl rfl Tryz.func51 (by kernel_rfl) rfl #[.string a0_0] rfl (zq3) ?_; (with_reducible refine (dialtoneref12_digits.calls k a0_0 true _ A2.out).mono ?_); rintro e w' ⟨rfl, ⟨nd, rfl⟩⟩; refine ⟨_, rfl, ?_⟩) | (go_at_call 51; (with_reducible refine (dialtoneref12_digits.calls k a0_1 false _ A4.out).mono ?_); rintro e w' ⟨rfl, ⟨nd, rfl⟩⟩))
   go_ret
   exact ⟨by first | rfl | (simp [errW_none, errW_some] <;> rfl) | (simp [*, errW_none, errW_some] <;> rfl), by repeat (first | (with_reducible first | exact HB.out | apply below_alloc | apply pw_below_drewN | apply below_drew1 | refine below_set ?_ GE220.out) | exact HB.out)⟩
 ·replace c3 := Bool.eq_false_iff.mpr c3
  subst c3
  rw [if_neg (show ¬ (false = true) by decide)] at H
  obtain rfl := Option.some.inj H
  go_enter Tryz.func58, Tryz.ntmps58
  go_wp2_with (first | ((with_reducible refine gate_dst (N := 1) rfl ?_); (try (refine gate_guard (by rfl) ?_; dsimp only)); refine box_event ?hg (N := 1) ?hd (cs := #[.string a0_0, .string a0_1, .int .i64 a0_2]) (t := 29) ?hr ?_; (case hd => rfl); (case hg => rfl); (case hr => exact zq0); intro gb220 hg w32 hbox hb; have n0_ := Aside0.mk (below_step (zq1) hb); have n1_ := Aside0.mk (hbox); have n2_ := Aside0.mk ((zq2 : w.heap.size ≤ gb220)); have n3_ := Aside0.mk ((zq2 : w.heap.size ≤ gb220)); clear HB; have HB := n0_; have BK220 := n1_; have GW220 := n2_; have GE220 := n3_; clear n0_ n1_ n2_ n3_; clear hb hbox hg; have hcz33_0 : w32.cell? ⟨gb220, 0, none⟩ = some (.string a0_0) := (blk_cell BK220.out 0).trans rfl; have hcz33_1 : w32.cell? ⟨gb220, 1, none⟩ = some (.string a0_1) := (blk_cell BK220.out 1).trans rfl; have hcz33_2 : w32.cell? ⟨gb220, 2, none⟩ = some (.int .i64 a0_2) := (blk_cell BK220.out 2).trans rfl; have hfz33_0 := blk_frozen BK220.out 0; have hfz33_1 := blk_frozen BK220.out 1; have hfz33_2 := blk_frozen BK220.out 2) | ((with_reducible refine gate_callee (f := 51) rfl ?_); refine goesL_ (some 5) rfl rfl Tryz.func51 (by kernel_rfl) rfl #[.string a0_0] rfl (zq3) ?_; (with_reducible refine (dialtoneref12_digits.calls k a0_0 false _ A2.out).mono ?_); rintro e w' ⟨rfl, ⟨nd, rfl⟩⟩; refine ⟨_, rfl, ?_⟩))
  go_ret
  exact ⟨by first | rfl | (simp [errW_none, errW_some] <;> rfl) | (simp [*, errW_none, errW_some] <;> rfl), by repeat (first | (with_reducible first | exact HB.out | apply below_alloc | apply pw_below_drewN | apply below_drew1 | refine below_set ?_ GE220.out) | exact HB.out)⟩
end Go.Proofs.YtlmfoblgheepoaaGreatDoor.Pl
end
section
open Go.Proofs.YtlmfoblgheepoaaGreatDoor.Z
namespace Go.Proofs.YtlmfoblgheepoaaGreatDoor.Pl
open Go.RowKit Go.Proofs.YtlmfoblgheepoaaGreatDoorW.PrintWords Go.Proofs.YtlmfoblgheepoaaGreatDoorW.PrintLast Go.Proofs.YtlmfoblgheepoaaGreatDoorW.PrintMore
attribute [local go_sem] max2_int min2_int max_two min_two max_three min_three max_four min_four
set_option linter.unusedVariables false
set_option linter.unusedSimpArgs false
mutual
def dialtoneref12_Valid.l0 : Nat → List (S29) → Int → Option (Bool)
 | 0, _, _ => none
 | k + 1, x0, x3 => if x3 < (x0.length : Int) then (if 0 ≤ x3 then ((dialtoneref12_one.f k ((rd_T29 x0 x3).f0) ((rd_T29 x0 x3).f1) ((rd_T29 x0 x3).f2)).bind fun t225 => (if t225 = true then (dialtoneref12_Valid.l1 k x0 x3 0) else (some false))) else (none)) else (some true)
def dialtoneref12_Valid.l1 : Nat → List (S29) → Int → Int → Option (Bool)
 | 0, _, _, _ => none
 | k + 1, x0, x3, x4 => if x4 < x3 then (if 0 ≤ x3 then (if x3 < (x0.length : Int) then (if 0 ≤ x4 then (if x4 < (x0.length : Int) then ((dialtoneref12_apart.f ((rd_T29 x0 x3).f0) ((rd_T29 x0 x4).f0)).bind fun t228 => (if t228 = true then ((dialtoneref12_apart.f ((rd_T29 x0 x3).f1) ((rd_T29 x0 x4).f1)).bind fun t231 => (if t231 = true then ((dialtoneref12_apart.f ((rd_T29 x0 x3).f0) ((rd_T29 x0 x4).f1)).bind fun t234 => (if t234 = true then ((dialtoneref12_apart.f ((rd_T29 x0 x3).f1) ((rd_T29 x0 x4).f0)).bind fun t237 => (if t237 = true then (dialtoneref12_Valid.l1 k x0 x3 (wrap64 (x4 + 1))) else (some false))) else (some false))) else (some false))) else (some false))) else (none)) else (none)) else (none)) else (none)) else (dialtoneref12_Valid.l0 k x0 (wrap64 (x3 + 1)))
end
def dialtoneref12_Valid.f (k : Nat) (l0 : List (S29)) : Option (Bool) := if (l0.length : Int) > 20 then (some false) else (dialtoneref12_Valid.l0 k l0 0)
def dialtoneref12_Valid.T11 : Bool × List (List Nat × List Nat) := (true, [([], []), ([], []), ([0, 1], [0, 1]), ([2], [2]), ([3], [3]), ([], []), ([], []), ([5, 6], [5, 6]), ([7], [7]), ([8], [8]), ([4, 9], [4, 9]), ([10], [10]), ([11, 10], [11]), ([12], [12]), ([12], [12]), ([13, 14, 12], [12, 13, 14]), ([15, 12], [12, 15]), ([16, 12], [12, 16]), ([12], [12]), ([12], [12]), ([18, 19, 12], [12, 18, 19]), ([20, 12], [12, 20]), ([21, 12], [12, 21]), ([17, 22, 12, 12], [12, 17, 22]), ([23, 12], [12, 23]), ([12, 24], [12, 24]), ([25, 23], [25]), ([26], [26]), ([26], [26]), ([27, 28, 26], [26, 27, 28]), ([29, 26], [26, 29]), ([30, 26], [26, 30]), ([26], [26]), ([26], [26]), ([32, 33, 26], [26, 32, 33]), ([34, 26], [26, 34]), ([35, 26], [26, 35]), ([31, 36, 26, 26], [26, 31, 36]), ([37, 26], [26, 37]), ([26, 38], [26, 38]), ([39, 37], [39]), ([40], [40]), ([40], [40]), ([41, 42, 40], [40, 41, 42]), ([43, 40], [40, 43]), ([44, 40], [40, 44]), ([40], [40]), ([40], [40]), ([46, 47, 40], [40, 46, 47]), ([48, 40], [40, 48]), ([49, 40], [40, 49]), ([45, 50, 40, 40], [40, 45, 50]), ([51, 40], [40, 51]), ([40, 52], [40, 52])])
def dialtoneref12_Valid.B11 : List Nat := [0, 0, 3, 7, 15, 0, 0, 96, 224, 480, 1023, 2047, 4095, 8191, 8191, 32767, 65535, 131071, 8191, 8191, 794623, 1843199, 3940351, 8388607, 16777215, 33554431, 67108863, 134217727, 134217727, 536870911, 1073741823, 2147483647, 134217727, 134217727, 13019119615, 30198988799, 64558727167, 137438953471, 274877906943, 549755813887, 1099511627775, 2199023255551, 2199023255551, 8796093022207, 17592186044415, 35184372088831, 2199023255551, 2199023255551, 213305255788543, 494780232499199, 1057730185920511, 2251799813685247, 4503599627370495, 9007199254740991]
theorem dialtoneref12_Valid.tab11 : rtab .any (opsOf Tryz.f26 11) = dialtoneref12_Valid.T11 := by kernel_rfl
theorem dialtoneref12_Valid.bits11 : waitsOk dialtoneref12_Valid.T11.2 dialtoneref12_Valid.B11 = true := by kernel_rfl
end Go.Proofs.YtlmfoblgheepoaaGreatDoor.Pl
end
