/- Mr: part 12 of the proof that the law's row holds: the printed walk of the program's functions, the plain law, the row. -/
import Derived.Test.YtlmfoblgheepoaaGreatDoorQMr10
section
open Go.Proofs.YtlmfoblgheepoaaGreatDoor.Z
namespace Go.Proofs.YtlmfoblgheepoaaGreatDoor.Pl
open Go.RowKit Go.Proofs.YtlmfoblgheepoaaGreatDoorW.PrintWords Go.Proofs.YtlmfoblgheepoaaGreatDoorW.PrintLast Go.Proofs.YtlmfoblgheepoaaGreatDoorW.PrintMore
attribute [local go_sem] max2_int min2_int max_two min_two max_three min_three max_four min_four
set_option linter.unusedVariables false
set_option linter.unusedSimpArgs false
mutual
def dialtoneref12_Read.j0 : Nat → List (S29) → ByteArray → Int → Bool → Option (Int × Int × Int × Int × Int)
 | 0, _, _, _, _ => none
 | k + 1, x0, x1, x2, x31 => if x31 = true then (some (0, 0, 0, 0, 120)) else (dialtoneref12_Read.l0 k x0 x1 x2 false 0)
def dialtoneref12_Read.l0 : Nat → List (S29) → ByteArray → Int → Bool → Int → Option (Int × Int × Int × Int × Int)
 | 0, _, _, _, _, _ => none
 | k + 1, x0, x1, x2, x8, x9 => if x9 < (x0.length : Int) then (if 0 ≤ x9 then (if x2 = 3 then (dialtoneref12_Read.j5 k x0 x1 x2 x8 x9 ((rd_T29 x0 x9).f0) ((rd_T29 x0 x9).f1) ((rd_T29 x0 x9).f2)) else ((dialtoneref12_begins.f ((rd_T29 x0 x9).f0) x1).bind fun t335 => (if t335 = true then (dialtoneref12_Read.j2 k x0 x1 x2 x8 x9 (decide ((x1.size : Int) ≥ ((rd_T29 x0 x9).f2))) ((rd_T29 x0 x9).f0) ((rd_T29 x0 x9).f1) ((rd_T29 x0 x9).f2)) else (dialtoneref12_Read.j2 k x0 x1 x2 x8 x9 false ((rd_T29 x0 x9).f0) ((rd_T29 x0 x9).f1) ((rd_T29 x0 x9).f2))))) else (none)) else (if x8 = true then (some (1, 0, 0, 0, 0)) else (some (0, 0, 0, 0, 0)))
def dialtoneref12_Read.j5 : Nat → List (S29) → ByteArray → Int → Bool → Int → ByteArray → ByteArray → Int → Option (Int × Int × Int × Int × Int)
 | 0, _, _, _, _, _, _, _, _ => none
 | k + 1, x0, x1, x2, x8, x9, x335000, x335001, x335002 => if x2 = 1 then (dialtoneref12_Read.l0 k x0 x1 x2 x8 (wrap64 (x9 + 1))) else ((dialtoneref12_begins.f x335001 x1).bind fun t340 => (if t340 = true then (dialtoneref12_Read.j6 k x0 x1 x2 x8 x9 (decide ((x1.size : Int) ≥ 8)) x335000 x335001 x335002) else (dialtoneref12_Read.j6 k x0 x1 x2 x8 x9 false x335000 x335001 x335002)))
def dialtoneref12_Read.j6 : Nat → List (S29) → ByteArray → Int → Bool → Int → Bool → ByteArray → ByteArray → Int → Option (Int × Int × Int × Int × Int)
 | 0, _, _, _, _, _, _, _, _, _ => none
 | k + 1, x0, x1, x2, x8, x9, x117, x335000, x335001, x335002 => if x117 = true then (if 0 ≤ 8 then (if 8 ≤ (x1.size : Int) then ((dialtoneref12_value.f k (x1.extract 0 8)).bind fun t341 => (some (2, t341, x9, 8, 0))) else (none)) else (none)) else (if x8 = true then (dialtoneref12_Read.l0 k x0 x1 x2 true (wrap64 (x9 + 1))) else ((dialtoneref12_begins.f x1 x335001).bind fun t342 => (if t342 = true then (dialtoneref12_Read.l0 k x0 x1 x2 true (wrap64 (x9 + 1))) else ((dialtoneref12_begins.f x335001 x1).bind fun t343 => (dialtoneref12_Read.l0 k x0 x1 x2 t343 (wrap64 (x9 + 1)))))))
def dialtoneref12_Read.j2 : Nat → List (S29) → ByteArray → Int → Bool → Int → Bool → ByteArray → ByteArray → Int → Option (Int × Int × Int × Int × Int)
 | 0, _, _, _, _, _, _, _, _, _ => none
 | k + 1, x0, x1, x2, x8, x9, x55, x335000, x335001, x335002 => if x55 = true then ((dialtoneref12_value.f k x335001).bind fun t336 => (dialtoneref12_Read.l1 k x1 x9 t336 0 x335000 x335001 x335002)) else (if x8 = true then (dialtoneref12_Read.j5 k x0 x1 x2 true x9 x335000 x335001 x335002) else ((dialtoneref12_begins.f x1 x335000).bind fun t338 => (if t338 = true then (dialtoneref12_Read.j5 k x0 x1 x2 true x9 x335000 x335001 x335002) else ((dialtoneref12_begins.f x335000 x1).bind fun t339 => (dialtoneref12_Read.j5 k x0 x1 x2 t339 x9 x335000 x335001 x335002)))))
def dialtoneref12_Read.l1 : Nat → ByteArray → Int → Int → Int → ByteArray → ByteArray → Int → Option (Int × Int × Int × Int × Int)
 | 0, _, _, _, _, _, _, _ => none
 | k + 1, x1, x9, x11, x12, x335000, x335001, x335002 => (dialtoneref12_local.f x335000 x335001 x335002).bind fun t337 => (if x12 < (wrap64 ((wrap64 (8 - (x335001.size : Int))) - t337)) then (dialtoneref12_Read.l1 k x1 x9 (wrap64 (10 * x11)) (wrap64 (x12 + 1)) x335000 x335001 x335002) else (dialtoneref12_Read.l2 k x1 x9 x11 (x335000.size : Int) x335000 x335001 x335002))
def dialtoneref12_Read.l2 : Nat → ByteArray → Int → Int → Int → ByteArray → ByteArray → Int → Option (Int × Int × Int × Int × Int)
 | 0, _, _, _, _, _, _, _ => none
 | k + 1, x1, x9, x11, x13, x335000, x335001, x335002 => if x13 < x335002 then (if 0 ≤ x13 then (if x13 < (x1.size : Int) then (dialtoneref12_Read.l2 k x1 x9 (wrap64 ((wrap64 (10 * x11)) + (((bt x1 x13) - 48) % 256))) (wrap64 (x13 + 1)) x335000 x335001 x335002) else (none)) else (none)) else (some (2, x11, x9, x335002, 0))
end
def dialtoneref12_Read.f (k : Nat) (l0 : List (S29)) (a1 : ByteArray) (a2 : Int) : Option (Int × Int × Int × Int × Int) := (dialtoneref12_Valid.f k l0).bind fun t330 => (if t330 = true then ((dialtoneref12_digits.f k a1).bind fun t331 => (if t331 = true then (if (a1.size : Int) > 16 then (dialtoneref12_Read.j0 k l0 a1 a2 true) else ((dialtoneref12_phase.f a2).bind fun t332 => (dialtoneref12_Read.j0 k l0 a1 a2 (!t332)))) else (dialtoneref12_Read.j0 k l0 a1 a2 true))) else (dialtoneref12_Read.j0 k l0 a1 a2 true))
def dialtoneref12_Read.T12 : Bool × List (List Nat × List Nat) := (true, [([], []), ([], []), ([1], [1]), ([2], [2]), ([3], [3]), ([], []), ([5], [5]), ([4, 6], [4, 6]), ([0, 7], [0, 7])])
def dialtoneref12_Read.B12 : List Nat := [0, 0, 2, 6, 14, 0, 32, 126, 255]
theorem dialtoneref12_Read.tab12 : rtab .any (opsOf Tryz.f22 12) = dialtoneref12_Read.T12 := by kernel_rfl
theorem dialtoneref12_Read.bits12 : waitsOk dialtoneref12_Read.T12.2 dialtoneref12_Read.B12 = true := by kernel_rfl
set_option maxHeartbeats 8000000 in
set_option maxRecDepth 100000 in
theorem dialtoneref12_Read.calls (k : Nat) (A0 : Option Addr) (c0 : Nat) (l0 : List (S29)) (a1 : ByteArray) (a2 : Int) (r1 : Int) (r2 : Int) (r3 : Int) (r4 : Int) (r5 : Int) (w : World) (hr0 : Kd.C k29 w A0 l0.length l0) (hc0 : l0.length ≤ c0) (h : dialtoneref12_Read.f k l0 a1 a2 = some (r1, r2, r3, r4, r5)) :
 Calls Tryz.prog 22 #[.slice A0 l0.length c0, .string a1, .int .i64 a2] w fun e w' => e = .returned (.tuple #[.agg #[.int .i64 r1, .int .i64 r2, .int .i64 r3, .int .i64 r4], .int .i64 r5]) ∧ Below w.heap.size w w' := by
 have hu44 := Tryz.underlying44
 have hu29 := Tryz.underlying29
 have HR0 := Aside0.mk hr0
 have HC0 := Aside0.mk hc0
 clear hr0 hc0
 have HB := Aside0.mk (Below.refl w.heap.size w)
 have H : ((dialtoneref12_Valid.f k l0).bind fun t330 => (if t330 = true then ((dialtoneref12_digits.f k a1).bind fun t331 => (if t331 = true then (if (a1.size : Int) > 16 then (dialtoneref12_Read.j0 k l0 a1 a2 true) else ((dialtoneref12_phase.f a2).bind fun t332 => (dialtoneref12_Read.j0 k l0 a1 a2 (!t332)))) else (dialtoneref12_Read.j0 k l0 a1 a2 true))) else (dialtoneref12_Read.j0 k l0 a1 a2 true))) = some (r1, r2, r3, r4, r5) := h
 clear h
 have HC4 := Aside0.mk H
 clear H
 go_enter Tryz.func22, Tryz.ntmps22
 go_upto_region 1 with (first | ((with_reducible refine gate_dst (N := 6) rfl ?_); (try (refine gate_guard (by rfl) ?_; dsimp only)); refine box_event ?hg (N := 6) ?hd (cs := #[.int .i64 0, .int .i64 0, .int .i64 0, .int .i64 0]) (t := 44) ?hr ?_; (case hd => rfl); (case hg => rfl); (case hr => exact zq3); intro gb329 hg w5 hbox hb; have BK329 := Aside0.mk (hbox); have GW329 := Aside0.mk ((zq4 : w.heap.size ≤ gb329)); have GE329 := Aside0.mk ((zq4 : w.heap.size ≤ gb329)); replace HB := Aside0.mk (below_step (zq5) hb); clear hb hbox hg))
 (try simp only [Act.put, List.setIfInBounds_toArray, List.set_cons_zero, List.set_cons_succ])
 go_cut [31] (fun v31 wc => ∃ (kq : Nat) (x31_3 : Bool), v31 = .bool x31_3 ∧ Aside0 (dialtoneref12_Read.j0 kq l0 a1 a2 x31_3 = some (r1, r2, r3, r4, r5)) ∧ Aside0 (kq ≤ k) ∧ Aside0 (wc.heap[gb329]? = some (.cells #[.int .i64 0, .int .i64 0, .int .i64 0, .int .i64 0] 44 (0, 0))) ∧ Aside0 (Below w.heap.size w wc))
 case first =>
  have H := HC4.out
  clear HC4
  replace H := Option.bind_eq_some_iff.mp H
  obtain ⟨t330, A60, H⟩ := H
  replace H : (if t330 = true then ((dialtoneref12_digits.f k a1).bind fun t331 => (if t331 = true then (if (a1.size : Int) > 16 then (dialtoneref12_Read.j0 k l0 a1 a2 true) else ((dialtoneref12_phase.f a2).bind fun t332 => (dialtoneref12_Read.j0 k l0 a1 a2 (!t332)))) else (dialtoneref12_Read.j0 k l0 a1 a2 true))) else (dialtoneref12_Read.j0 k l0 a1 a2 true)) = some (r1, r2, r3, r4, r5) := H
  have A6 := Aside0.mk A60
  clear A60
  by_cases c7 : t330 = true
  rotate_left
  ·replace c7 := Bool.eq_false_iff.mpr c7
   subst c7
   have H1 : (dialtoneref12_Read.j0 k l0 a1 a2 true) = some (r1, r2, r3, r4, r5) := by rw [if_neg (show ¬ (false = true) by decide)] at H; exact H
   clear H
   have H := H1
   clear H1
   have H' := Aside0.mk H
   clear H
   go_wp2_with (first | ((with_reducible refine gate_callee (f := 26) rfl ?_); refine goesL_ (some 15) rfl rfl Tryz.func26 (by kernel_rfl) rfl #[.slice A0 l0.length c0] rfl (zq7) ?_; (with_reducible refine (dialtoneref12_Valid.calls k _ _ l0 false _ ?side1 ?side2 A6.out).mono ?_); (case side1 => exact zq28); (case side2 => exact zq29); rintro e w15 ⟨rfl, hb⟩; refine ⟨_, rfl, ?_⟩; replace BK329 := Aside0.mk (blk_below (g := gb329) (o := .cells #[.int .i64 0, .int .i64 0, .int .i64 0, .int .i64 0] 44 (0, 0)) (zq124) hb); replace HB := Aside0.mk (below_step (zq125) hb); (try clear hb); (try clear hb2); (try clear hk); (try clear hi)))
   go_meet
   case rel => exact ⟨_, (true), (zq1), H', ⟨zq10⟩, ⟨zq124⟩, ⟨zq125⟩⟩
  subst c7
  have H1 : ((dialtoneref12_digits.f k a1).bind fun t331 => (if t331 = true then (if (a1.size : Int) > 16 then (dialtoneref12_Read.j0 k l0 a1 a2 true) else ((dialtoneref12_phase.f a2).bind fun t332 => (dialtoneref12_Read.j0 k l0 a1 a2 (!t332)))) else (dialtoneref12_Read.j0 k l0 a1 a2 true))) = some (r1, r2, r3, r4, r5) := by rw [if_pos rfl] at H; exact H
  clear H
  have H := H1
  clear H1
  replace H := Option.bind_eq_some_iff.mp H
  obtain ⟨t331, A80, H⟩ := H
  replace H : (if t331 = true then (if (a1.size : Int) > 16 then (dialtoneref12_Read.j0 k l0 a1 a2 true) else ((dialtoneref12_phase.f a2).bind fun t332 => (dialtoneref12_Read.j0 k l0 a1 a2 (!t332)))) else (dialtoneref12_Read.j0 k l0 a1 a2 true)) = some (r1, r2, r3, r4, r5) := H
  have A8 := Aside0.mk A80
  clear A80
  by_cases c9 : t331 = true
  rotate_left
  ·replace c9 := Bool.eq_false_iff.mpr c9
   subst c9
   have H1 : (dialtoneref12_Read.j0 k l0 a1 a2 true) = some (r1, r2, r3, r4, r5) := by rw [if_neg (show ¬ (false = true) by decide)] at H; exact H
   clear H
   have H := H1
   clear H1
   have H' := Aside0.mk H
   clear H
   go_wp2_with (first | ((with_reducible refine gate_callee (f := 26) rfl ?_); refine goesL_ (some 15) rfl rfl Tryz.func26 (by kernel_rfl) rfl #[.slice A0 l0.length c0] rfl (zq7) ?_; (with_reducible refine (dialtoneref12_Valid.calls k _ _ l0 true _ ?side1 ?side2 A6.out).mono ?_); (case side1 => exact zq28); (case side2 => exact zq29); rintro e w14 ⟨rfl, hb⟩; refine ⟨_, rfl, ?_⟩; replace BK329 := Aside0.mk (blk_below (g := gb329) (o := .cells #[.int .i64 0, .int .i64 0, .int .i64 0, .int .i64 0] 44 (0, 0)) (zq124) hb); replace HB := Aside0.mk (below_step (zq125) hb); (try clear hb); (try clear hb2); (try clear hk); (try clear hi)) | (go_at_call 51; (with_reducible refine (dialtoneref12_digits.calls k a1 false _ A8.out).mono ?_); rintro e w' ⟨rfl, ⟨nd, rfl⟩⟩))
   go_meet
   case rel => exact ⟨_, (true), (zq1), H', ⟨zq10⟩, ⟨zq124⟩, ⟨zq125⟩⟩
  subst c9
  have H1 : (if (a1.size : Int) > 16 then (dialtoneref12_Read.j0 k l0 a1 a2 true) else ((dialtoneref12_phase.f a2).bind fun t332 => (dialtoneref12_Read.j0 k l0 a1 a2 (!t332)))) = some (r1, r2, r3, r4, r5) := by rw [if_pos rfl] at H; exact H
  clear H
  have H := H1
  clear H1
  by_cases c10 : (a1.size : Int) > 16
  ·rw [if_pos c10] at H
   have c10b0 : decide (16 < (a1.size : Int)) = true := decide_eq_true c10
   have c10b1 : decide (16 < a1.size) = true := decide_eq_true (by omega)
   clear c10
   (first | rw [c10b0] | (simp only [i64_w, i32_w]; rw [c10b0]) | skip)
   have H' := Aside0.mk H
   clear H
   go_wp2_with (first | ((with_reducible refine gate_callee (f := 26) rfl ?_); refine goesL_ (some 15) rfl rfl Tryz.func26 (by kernel_rfl) rfl #[.slice A0 l0.length c0] rfl (zq7) ?_; (with_reducible refine (dialtoneref12_Valid.calls k _ _ l0 true _ ?side1 ?side2 A6.out).mono ?_); (case side1 => exact zq28); (case side2 => exact zq29); rintro e w11 ⟨rfl, hb⟩; refine ⟨_, rfl, ?_⟩; replace BK329 := Aside0.mk (blk_below (g := gb329) (o := .cells #[.int .i64 0, .int .i64 0, .int .i64 0, .int .i64 0] 44 (0, 0)) (zq124) hb); replace HB := Aside0.mk (below_step (zq125) hb); (try clear hb); (try clear hb2); (try clear hk); (try clear hi)) | (go_at_call 51; (with_reducible refine (dialtoneref12_digits.calls k a1 true _ A8.out).mono ?_); rintro e w' ⟨rfl, ⟨nd, rfl⟩⟩))
   go_meet
   case rel => exact ⟨_, (true), (zq1), H', ⟨zq10⟩, ⟨zq124⟩, ⟨zq125⟩⟩
  rw [if_neg c10] at H
  have c10b0 : decide (16 < (a1.size : Int)) = false := decide_eq_false c10
  have c10b1 : decide (16 < a1.size) = false := decide_eq_false (by omega)
  clear c10
  (first | rw [c10b0] | (simp only [i64_w, i32_w]; rw [c10b0]) | skip)
  replace H := Option.bind_eq_some_iff.mp H
  obtain ⟨t332, A120, H⟩ := H
  replace H : (dialtoneref12_Read.j0 k l0 a1 a2 (!t332)) = some (r1, r2, r3, r4, r5) := H
  have A12 := Aside0.mk A120
  clear A120
  have H' := Aside0.mk H
  clear H
  go_wp2_with (first | ((with_reducible refine gate_callee (f := 26) rfl ?_); refine goesL_ (some 15) rfl rfl Tryz.func26 (by kernel_rfl) rfl #[.slice A0 l0.length c0] rfl (zq7) ?_; (with_reducible refine (dialtoneref12_Valid.calls k _ _ l0 true _ ?side1 ?side2 A6.out).mono ?_); (case side1 => exact zq28); (case side2 => exact zq29); rintro e w13 ⟨rfl, hb⟩; refine ⟨_, rfl, ?_⟩; replace BK329 := Aside0.mk (blk_below (g := gb329) (o := .cells #[.int .i64 0, .int .i64 0, .int .i64 0, .int .i64 0] 44 (0, 0)) (zq124) hb); replace HB := Aside0.mk (below_step (zq125) hb); (try clear hb); (try clear hb2); (try clear hk); (try clear hi)) | (go_at_call 51; (with_reducible refine (dialtoneref12_digits.calls k a1 true _ A8.out).mono ?_); rintro e w' ⟨rfl, ⟨nd, rfl⟩⟩) | (go_at_call 41; (with_reducible refine (dialtoneref12_phase.calls a2 t332 _ A12.out).mono ?_); rintro e w' ⟨rfl, ⟨nd, rfl⟩⟩))
  go_meet
  case rel => exact ⟨_, (!t332), (zq1), H', ⟨zq10⟩, ⟨zq124⟩, ⟨zq125⟩⟩
 case rest =>
  clear HC4
  try clear c1
  try clear c2
  try clear p2
  try clear p6
  try clear c7
  try clear c9
  try clear c10
  try clear c10b0
  try clear c10b1
  obtain ⟨kq, x31_3, rfl, HA, HJ3, BK329, HB⟩ := hcut
  cases kq with
  | zero => exact absurd HA.out (by simp [dialtoneref12_Read.j0])
  | succ kj3 =>
   have H := HA.out
   clear HA
   simp only [dialtoneref12_Read.j0] at H
   by_cases c16 : x31_3 = true
   ·subst c16
    have H1 : (some (0, 0, 0, 0, 120)) = some (r1, r2, r3, r4, r5) := by rw [if_pos rfl] at H; exact H
    clear H
    have H := H1
    clear H1
    simp only [Option.some.injEq, Prod.mk.injEq] at H
    obtain ⟨rfl, rfl, rfl, rfl, rfl⟩ := H
    have hcz17_0 : wc.cell? ⟨gb329, 0, none⟩ = some (.int .i64 0) := (blk_cell BK329.out 0).trans rfl
    have hcz17_1 : wc.cell? ⟨gb329, 1, none⟩ = some (.int .i64 0) := (blk_cell BK329.out 1).trans rfl
    have hcz17_2 : wc.cell? ⟨gb329, 2, none⟩ = some (.int .i64 0) := (blk_cell BK329.out 2).trans rfl
    have hcz17_3 : wc.cell? ⟨gb329, 3, none⟩ = some (.int .i64 0) := (blk_cell BK329.out 3).trans rfl
    have hfz17_0 := blk_frozen BK329.out 0
    have hfz17_1 := blk_frozen BK329.out 1
    have hfz17_2 := blk_frozen BK329.out 2
    have hfz17_3 := blk_frozen BK329.out 3
    go_wp2
    refine bodyPost_ret (results_ct rfl _ _ gb329 44 #[.int .i64 0, .int .i64 0, .int .i64 0, .int .i64 0] (0, 0) _ rfl (by (with_reducible repeat (first | refine blk_drewN ?_ _ | refine blk_drew ?_ | refine blk_alloc ?_ _)); refine blk_put (cs := #[.int .i64 0, .int .i64 0, .int .i64 0, .int .i64 0]) ?_ 3 _ rfl; (with_reducible repeat (first | refine blk_drewN ?_ _ | refine blk_drew ?_ | refine blk_alloc ?_ _)); refine blk_put (cs := #[.int .i64 0, .int .i64 0, .int .i64 0, .int .i64 0]) ?_ 2 _ rfl; (with_reducible repeat (first | refine blk_drewN ?_ _ | refine blk_drew ?_ | refine blk_alloc ?_ _)); refine blk_put (cs := #[.int .i64 0, .int .i64 0, .int .i64 0, .int .i64 0]) ?_ 1 _ rfl; (with_reducible repeat (first | refine blk_drewN ?_ _ | refine blk_drew ?_ | refine blk_alloc ?_ _)); refine blk_put (cs := #[.int .i64 0, .int .i64 0, .int .i64 0, .int .i64 0]) ?_ 0 _ rfl; (with_reducible repeat (first | refine blk_drewN ?_ _ | refine blk_drew ?_ | refine blk_alloc ?_ _)); exact BK329.out) Tryz.underlying44 rfl (by kernel_rfl)) rfl ?_
    exact ⟨zq6, zq125⟩
   replace c16 := Bool.eq_false_iff.mpr c16
   subst c16
   have H1 : (dialtoneref12_Read.l0 kj3 l0 a1 a2 false 0) = some (r1, r2, r3, r4, r5) := by rw [if_neg (show ¬ (false = true) by decide)] at H; exact H
   clear H
   have H := H1
   clear H1
   have H' := Aside0.mk H
   clear H
   go_wp2
   go_loopg [8, 9] kj3 (fun kq v8 v9 w' => ∃ (x8_2 : Bool) (x9_2 : Int) (x330000_2 : Int) (x330001_2 : Int) (x330002_2 : Int) (x330003_2 : Int), v8 = .bool x8_2 ∧ v9 = .int .i64 x9_2 ∧ Aside0 (dialtoneref12_Read.l0 kq l0 a1 a2 x8_2 x9_2 = some (r1, r2, r3, r4, r5)) ∧ Aside0 (kq ≤ kj3) ∧ Aside0 (w'.heap[gb329]? = some (.cells #[.int .i64 x330000_2, .int .i64 x330001_2, .int .i64 x330002_2, .int .i64 x330003_2] 44 (0, 0))) ∧ Aside0 (Below w.heap.size w w'))
   case atStart => exact ⟨(false), (0), (0), (0), (0), (0), (zq1), (zq1), H', ⟨Nat.le_refl _⟩, ⟨zq124⟩, ⟨zq125⟩⟩
   case round =>
    clear H'
    try clear c1
    try clear c2
    try clear p2
    try clear p6
    try clear c7
    try clear c9
    try clear c10
    try clear c10b0
    try clear c10b1
    try clear c16
    try clear hcz17_0
    try clear hcz17_1
    try clear hcz17_2
    try clear hcz17_3
    try clear hfz17_0
    try clear hfz17_1
    try clear hfz17_2
    try clear hfz17_3
    try clear p2
    try clear p6
    obtain ⟨x8_2, x9_2, x330000_2, x330001_2, x330002_2, x330003_2, rfl, rfl, HA, HK2, BK329, HB⟩ := hrel
    cases gk with
    | zero => exact absurd HA.out (by simp [dialtoneref12_Read.l0])
    | succ k2 =>
     have H := HA.out
     clear HA
     simp only [dialtoneref12_Read.l0] at H
     by_cases c18 : x9_2 < (l0.length : Int)
     rotate_left
     ·rw [if_neg c18] at H
      have c18b0 : decide (x9_2 < (l0.length : Int)) = false := decide_eq_false c18
      clear c18
      by_cases c83 : x8_2 = true
      ·subst c83
       have H1 : (some (1, 0, 0, 0, 0)) = some (r1, r2, r3, r4, r5) := by rw [if_pos rfl] at H; exact H
       clear H
       have H := H1
       clear H1
       simp only [Option.some.injEq, Prod.mk.injEq] at H
       obtain ⟨rfl, rfl, rfl, rfl, rfl⟩ := H
       have hcz84_0 : wr.cell? ⟨gb329, 0, none⟩ = some (.int .i64 x330000_2) := (blk_cell BK329.out 0).trans rfl
       have hcz84_1 : wr.cell? ⟨gb329, 1, none⟩ = some (.int .i64 x330001_2) := (blk_cell BK329.out 1).trans rfl
       have hcz84_2 : wr.cell? ⟨gb329, 2, none⟩ = some (.int .i64 x330002_2) := (blk_cell BK329.out 2).trans rfl
       have hcz84_3 : wr.cell? ⟨gb329, 3, none⟩ = some (.int .i64 x330003_2) := (blk_cell BK329.out 3).trans rfl
       have hfz84_0 := blk_frozen BK329.out 0
       have hfz84_1 := blk_frozen BK329.out 1
       have hfz84_2 := blk_frozen BK329.out 2
       have hfz84_3 := blk_frozen BK329.out 3
       go_wp2
       refine bodyPost_ret (results_ct rfl _ _ gb329 44 #[.int .i64 1, .int .i64 0, .int .i64 0, .int .i64 0] (0, 0) _ rfl (by (with_reducible repeat (first | refine blk_drewN ?_ _ | refine blk_drew ?_ | refine blk_alloc ?_ _)); refine blk_put (cs := #[.int .i64 1, .int .i64 0, .int .i64 0, .int .i64 x330003_2]) ?_ 3 _ rfl; (with_reducible repeat (first | refine blk_drewN ?_ _ | refine blk_drew ?_ | refine blk_alloc ?_ _)); refine blk_put (cs := #[.int .i64 1, .int .i64 0, .int .i64 x330002_2, .int .i64 x330003_2]) ?_ 2 _ rfl; (with_reducible repeat (first | refine blk_drewN ?_ _ | refine blk_drew ?_ | refine blk_alloc ?_ _)); refine blk_put (cs := #[.int .i64 1, .int .i64 x330001_2, .int .i64 x330002_2, .int .i64 x330003_2]) ?_ 1 _ rfl; (with_reducible repeat (first | refine blk_drewN ?_ _ | refine blk_drew ?_ | refine blk_alloc ?_ _)); refine blk_put (cs := #[.int .i64 x330000_2, .int .i64 x330001_2, .int .i64 x330002_2, .int .i64 x330003_2]) ?_ 0 _ rfl; (with_reducible repeat (first | refine blk_drewN ?_ _ | refine blk_drew ?_ | refine blk_alloc ?_ _)); exact BK329.out) Tryz.underlying44 rfl (by kernel_rfl)) rfl ?_
       exact ⟨zq6, zq125⟩
      replace c83 := Bool.eq_false_iff.mpr c83
      subst c83
      have H1 : (some (0, 0, 0, 0, 0)) = some (r1, r2, r3, r4, r5) := by rw [if_neg (show ¬ (false = true) by decide)] at H; exact H
      clear H
      have H := H1
      clear H1
      simp only [Option.some.injEq, Prod.mk.injEq] at H
      obtain ⟨rfl, rfl, rfl, rfl, rfl⟩ := H
      have hcz85_0 : wr.cell? ⟨gb329, 0, none⟩ = some (.int .i64 x330000_2) := (blk_cell BK329.out 0).trans rfl
      have hcz85_1 : wr.cell? ⟨gb329, 1, none⟩ = some (.int .i64 x330001_2) := (blk_cell BK329.out 1).trans rfl
      have hcz85_2 : wr.cell? ⟨gb329, 2, none⟩ = some (.int .i64 x330002_2) := (blk_cell BK329.out 2).trans rfl
      have hcz85_3 : wr.cell? ⟨gb329, 3, none⟩ = some (.int .i64 x330003_2) := (blk_cell BK329.out 3).trans rfl
      have hfz85_0 := blk_frozen BK329.out 0
      have hfz85_1 := blk_frozen BK329.out 1
      have hfz85_2 := blk_frozen BK329.out 2
      have hfz85_3 := blk_frozen BK329.out 3
      go_wp2
      refine bodyPost_ret (results_ct rfl _ _ gb329 44 #[.int .i64 0, .int .i64 0, .int .i64 0, .int .i64 0] (0, 0) _ rfl (by (with_reducible repeat (first | refine blk_drewN ?_ _ | refine blk_drew ?_ | refine blk_alloc ?_ _)); refine blk_put (cs := #[.int .i64 0, .int .i64 0, .int .i64 0, .int .i64 x330003_2]) ?_ 3 _ rfl; (with_reducible repeat (first | refine blk_drewN ?_ _ | refine blk_drew ?_ | refine blk_alloc ?_ _)); refine blk_put (cs := #[.int .i64 0, .int .i64 0, .int .i64 x330002_2, .int .i64 x330003_2]) ?_ 2 _ rfl; (with_reducible repeat (first | refine blk_drewN ?_ _ | refine blk_drew ?_ | refine blk_alloc ?_ _)); refine blk_put (cs := #[.int .i64 0, .int .i64 x330001_2, .int .i64 x330002_2, .int .i64 x330003_2]) ?_ 1 _ rfl; (with_reducible repeat (first | refine blk_drewN ?_ _ | refine blk_drew ?_ | refine blk_alloc ?_ _)); refine blk_put (cs := #[.int .i64 x330000_2, .int .i64 x330001_2, .int .i64 x330002_2, .int .i64 x330003_2]) ?_ 0 _ rfl; (with_reducible repeat (first | refine blk_drewN ?_ _ | refine blk_drew ?_ | refine blk_alloc ?_ _)); exact BK329.out) Tryz.underlying44 rfl (by kernel_rfl)) rfl ?_
      exact ⟨zq6, zq125⟩
     rw [if_pos c18] at H
     have c18b0 : decide (x9_2 < (l0.length : Int)) = true := decide_eq_true c18
     clear c18
     by_cases c19 : 0 ≤ x9_2
     rotate_left
     ·rw [if_neg c19] at H
      exact absurd H (by simp)
     rw [if_pos c19] at H
     have c19b0 : decide (0 ≤ x9_2) = true := decide_eq_true c19
     clear c19
     have HC20 := Aside0.mk H
     clear H
     have p333 : 0 ≤ (x9_2 : Int) := of_decide_eq_true (zq18)
     have q333 : x9_2 < (l0.length : Int) := of_decide_eq_true (zq18)
     obtain ⟨ad333, e333, hx333_0, hx333_1, hx333_2⟩ := at_T29 HR0.out x9_2 p333 q333
     cases e333
     replace hx333_0 := (HB.out.cell (World.block_lt_of_cell? w _ hx333_0)).trans hx333_0
     replace hx333_1 := (HB.out.cell (World.block_lt_of_cell? w _ hx333_1)).trans hx333_1
     replace hx333_2 := (HB.out.cell (World.block_lt_of_cell? w _ hx333_2)).trans hx333_2
     replace p333 := eq_true p333
     replace q333 := eq_true q333
     go_upto_if 44 with (first | ((with_reducible refine gate_dst (N := 10) rfl ?_); (try (refine gate_guard (by rfl) ?_; dsimp only)); refine box_event ?hg (N := 10) ?hd (cs := #[.string (⟨#[]⟩ : ByteArray), .string (⟨#[]⟩ : ByteArray), .int .i64 0]) (t := 29) ?hr ?_; (case hd => rfl); (case hg => rfl); (case hr => exact zq3); intro gb334 hg w21 hbox hb; have BK334 := Aside0.mk (hbox); have GW334 := Aside0.mk ((zq126 : w.heap.size ≤ gb334)); have GE334 := Aside0.mk ((zq126 : w.heap.size ≤ gb334)); replace HB := Aside0.mk (below_step (zq125) hb); have NB329_334 := Aside0.mk ((by rw [hg]; exact Nat.ne_of_lt (blk_lt (g := gb329) (o := .cells #[.int .i64 x330000_2, .int .i64 x330001_2, .int .i64 x330002_2, .int .i64 x330003_2] 44 (0, 0)) (zq124)) : gb329 ≠ gb334)); have NB334_329 := Aside0.mk ((by rw [hg]; exact Nat.ne_of_gt (blk_lt (g := gb329) (o := .cells #[.int .i64 x330000_2, .int .i64 x330001_2, .int .i64 x330002_2, .int .i64 x330003_2] 44 (0, 0)) (zq124)) : gb334 ≠ gb329)); replace BK329 := Aside0.mk (blk_below (g := gb329) (o := .cells #[.int .i64 x330000_2, .int .i64 x330001_2, .int .i64 x330002_2, .int .i64 x330003_2] 44 (0, 0)) (zq124) hb); clear hb hbox hg; have hnb22 := NB334_329.out; have hnc22 := NB329_334.out; have hcz23_0 : w21.cell? ⟨gb334, 0, none⟩ = some (.string (⟨#[]⟩ : ByteArray)) := (blk_cell BK334.out 0).trans rfl; have hcz23_1 : w21.cell? ⟨gb334, 1, none⟩ = some (.string (⟨#[]⟩ : ByteArray)) := (blk_cell BK334.out 1).trans rfl; have hcz23_2 : w21.cell? ⟨gb334, 2, none⟩ = some (.int .i64 0) := (blk_cell BK334.out 2).trans rfl; have hfz23_0 := blk_frozen BK334.out 0; have hfz23_1 := blk_frozen BK334.out 1; have hfz23_2 := blk_frozen BK334.out 2))
     (try simp only [Act.put, List.setIfInBounds_toArray, List.set_cons_zero, List.set_cons_succ])
     go_cut [8] (fun v8 wc => ∃ (kq : Nat) (x8_19 : Bool) (x330000_19 : Int) (x330001_19 : Int) (x330002_19 : Int) (x330003_19 : Int), v8 = .bool x8_19 ∧ Aside0 (dialtoneref12_Read.j5 kq l0 a1 a2 x8_19 x9_2 ((rd_T29 l0 x9_2).f0) ((rd_T29 l0 x9_2).f1) ((rd_T29 l0 x9_2).f2) = some (r1, r2, r3, r4, r5)) ∧ Aside0 (kq ≤ k2) ∧ Aside0 (wc.heap[gb329]? = some (.cells #[.int .i64 x330000_19, .int .i64 x330001_19, .int .i64 x330002_19, .int .i64 x330003_19] 44 (0, 0))) ∧ Aside0 (wc.heap[gb334]? = some (.cells #[.string ((rd_T29 l0 x9_2).f0), .string ((rd_T29 l0 x9_2).f1), .int .i64 ((rd_T29 l0 x9_2).f2)] 29 (0, 0))) ∧ Aside0 (Below w.heap.size w wc))
     case first =>
      have H := HC20.out
      clear HC20
      by_cases c24 : a2 = 3
      ·rw [if_pos c24] at H
       have c24b0 : (a2 == 3) = true := beq_iff_eq.mpr c24
       have c24b1 : (a2 != 3) = false := bne_eq_false_iff_eq.mpr c24
       clear c24
       (first | rw [c24b0] | (simp only [i64_w, i32_w]; rw [c24b0]) | skip)
       have H' := Aside0.mk H
       clear H
       go_wp2
       go_meet
       case rel => exact ⟨_, (x8_2), (x330000_2), (x330001_2), (x330002_2), (x330003_2), (zq1), H', ⟨zq129⟩, ⟨zq130⟩, ⟨zq131⟩, ⟨zq128⟩⟩
      rw [if_neg c24] at H
      have c24b0 : (a2 == 3) = false := beq_eq_false_iff_ne.mpr c24
      have c24b1 : (a2 != 3) = true := bne_iff_ne.mpr c24
      (first | rw [c24b0] | (simp only [i64_w, i32_w]; rw [c24b0]) | skip)
      have HC25 := Aside0.mk H
      clear H
      go_upto_region 9 with (fail)
      go_cut [55] (fun v55 wc => ∃ (kq : Nat) (x55_24 : Bool), v55 = .bool x55_24 ∧ Aside0 (dialtoneref12_Read.j2 kq l0 a1 a2 x8_2 x9_2 x55_24 ((rd_T29 l0 x9_2).f0) ((rd_T29 l0 x9_2).f1) ((rd_T29 l0 x9_2).f2) = some (r1, r2, r3, r4, r5)) ∧ Aside0 (kq ≤ k2) ∧ Aside0 (wc.heap[gb329]? = some (.cells #[.int .i64 x330000_2, .int .i64 x330001_2, .int .i64 x330002_2, .int .i64 x330003_2] 44 (0, 0))) ∧ Aside0 (wc.heap[gb334]? = some (.cells #[.string ((rd_T29 l0 x9_2).f0), .string ((rd_T29 l0 x9_2).f1), .int .i64 ((rd_T29 l0 x9_2).f2)] 29 (0, 0))) ∧ Aside0 (Below w.heap.size w wc))
      case first =>
       have H := HC25.out
       clear HC25
       replace H := Option.bind_eq_some_iff.mp H
       obtain ⟨t335, A260, H⟩ := H
       replace H : (if t335 = true then (dialtoneref12_Read.j2 k2 l0 a1 a2 x8_2 x9_2 (decide ((a1.size : Int) ≥ ((rd_T29 l0 x9_2).f2))) ((rd_T29 l0 x9_2).f0) ((rd_T29 l0 x9_2).f1) ((rd_T29 l0 x9_2).f2)) else (dialtoneref12_Read.j2 k2 l0 a1 a2 x8_2 x9_2 false ((rd_T29 l0 x9_2).f0) ((rd_T29 l0 x9_2).f1) ((rd_T29 l0 x9_2).f2))) = some (r1, r2, r3, r4, r5) := H
       have A26 := Aside0.mk A260
       clear A260
       by_cases c27 : t335 = true
       rotate_left
       ·replace c27 := Bool.eq_false_iff.mpr c27
        subst c27
        have H1 : (dialtoneref12_Read.j2 k2 l0 a1 a2 x8_2 x9_2 false ((rd_T29 l0 x9_2).f0) ((rd_T29 l0 x9_2).f1) ((rd_T29 l0 x9_2).f2)) = some (r1, r2, r3, r4, r5) := by rw [if_neg (show ¬ (false = true) by decide)] at H; exact H
        clear H
        have H := H1
        clear H1
        have H' := Aside0.mk H
        clear H
        have hnb30 := NB334_329.out
        have hnc30 := NB329_334.out
        have hcz31_0 : w21.cell? ⟨gb334, 0, none⟩ = some (.string (⟨#[]⟩ : ByteArray)) := (blk_cell BK334.out 0).trans rfl
        have hcz31_1 : w21.cell? ⟨gb334, 1, none⟩ = some (.string (⟨#[]⟩ : ByteArray)) := (blk_cell BK334.out 1).trans rfl
        have hcz31_2 : w21.cell? ⟨gb334, 2, none⟩ = some (.int .i64 0) := (blk_cell BK334.out 2).trans rfl
        have hfz31_0 := blk_frozen BK334.out 0
        have hfz31_1 := blk_frozen BK334.out 1
        have hfz31_2 := blk_frozen BK334.out 2
        go_wp2_with (first | ((with_reducible refine gate_callee (f := 52) rfl ?_); refine goesL_ (some 48) rfl rfl Tryz.func52 (by kernel_rfl) rfl #[.string ((rd_T29 l0 x9_2).f0), .string a1] rfl (zq7) ?_; (with_reducible refine (dialtoneref12_begins.calls ((rd_T29 l0 x9_2).f0) a1 false _ A26.out).mono ?_); rintro e w' ⟨rfl, ⟨nd, rfl⟩⟩; refine ⟨_, rfl, ?_⟩))
        go_meet
        case rel => exact ⟨_, (false), (zq1), H', ⟨zq129⟩, ⟨zq130⟩, ⟨zq131⟩, ⟨zq128⟩⟩
       subst c27
       have H1 : (dialtoneref12_Read.j2 k2 l0 a1 a2 x8_2 x9_2 (decide ((a1.size : Int) ≥ ((rd_T29 l0 x9_2).f2))) ((rd_T29 l0 x9_2).f0) ((rd_T29 l0 x9_2).f1) ((rd_T29 l0 x9_2).f2)) = some (r1, r2, r3, r4, r5) := by rw [if_pos rfl] at H; exact H
       clear H
       have H := H1
       clear H1
       have H' := Aside0.mk H
       clear H
       have hnb28 := NB334_329.out
       have hnc28 := NB329_334.out
       have hcz29_0 : w21.cell? ⟨gb334, 0, none⟩ = some (.string (⟨#[]⟩ : ByteArray)) := (blk_cell BK334.out 0).trans rfl
       have hcz29_1 : w21.cell? ⟨gb334, 1, none⟩ = some (.string (⟨#[]⟩ : ByteArray)) := (blk_cell BK334.out 1).trans rfl
       have hcz29_2 : w21.cell? ⟨gb334, 2, none⟩ = some (.int .i64 0) := (blk_cell BK334.out 2).trans rfl
       have hfz29_0 := blk_frozen BK334.out 0
       have hfz29_1 := blk_frozen BK334.out 1
       have hfz29_2 := blk_frozen BK334.out 2
       go_wp2_with (first | ((with_reducible refine gate_callee (f := 52) rfl ?_); refine goesL_ (some 48) rfl rfl Tryz.func52 (by kernel_rfl) rfl #[.string ((rd_T29 l0 x9_2).f0), .string a1] rfl (zq7) ?_; (with_reducible refine (dialtoneref12_begins.calls ((rd_T29 l0 x9_2).f0) a1 true _ A26.out).mono ?_); rintro e w' ⟨rfl, ⟨nd, rfl⟩⟩; refine ⟨_, rfl, ?_⟩))
       go_meet
       case rel => exact ⟨_, (decide ((a1.size : Int) ≥ ((rd_T29 l0 x9_2).f2))), (zq1), H', ⟨zq129⟩, ⟨zq130⟩, ⟨zq131⟩, ⟨zq128⟩⟩
      case rest =>
       clear HC25
       try clear c1
       try clear c2
       try clear p2
       try clear c3
       try clear p3
       try clear q3
       try clear hx3
       try clear c5
       try clear p6
       try clear c7
       try clear c9
       try clear c10
       try clear c10b0
       try clear c10b1
       try clear c16
       try clear c18
       try clear c18b0
       try clear c19
       try clear c19b0
       try clear c22
       try clear c24
       try clear c24b0
       try clear c24b1
       try clear c26
       try clear c27
       try clear c28
       try clear c30
       try clear hcz17_0
       try clear hcz17_1
       try clear hcz17_2
       try clear hcz17_3
       try clear hcz23_0
       try clear hcz23_1
       try clear hcz23_2
       try clear hcz29_0
       try clear hcz29_1
       try clear hcz29_2
       try clear hcz31_0
       try clear hcz31_1
       try clear hcz31_2
       try clear hfz17_0
       try clear hfz17_1
       try clear hfz17_2
       try clear hfz17_3
       try clear hfz23_0
       try clear hfz23_1
       try clear hfz23_2
       try clear hfz29_0
       try clear hfz29_1
       try clear hfz29_2
       try clear hfz31_0
       try clear hfz31_1
       try clear hfz31_2
       try clear hx333_0
       try clear hx333_1
       try clear hx333_2
       try clear p2
       try clear p333
       try clear p6
       try clear q333
       obtain ⟨kq, x55_24, rfl, HA, HJ24, BK329, BK334, HB⟩ := hcut
       cases kq with
       | zero => exact absurd HA.out (by simp [dialtoneref12_Read.j2])
       | succ kj24 =>
        have H := HA.out
        clear HA
        simp only [dialtoneref12_Read.j2] at H
        by_cases c32 : x55_24 = true
        rotate_left
        ·replace c32 := Bool.eq_false_iff.mpr c32
         subst c32
         have H1 : (if x8_2 = true then (dialtoneref12_Read.j5 kj24 l0 a1 a2 true x9_2 ((rd_T29 l0 x9_2).f0) ((rd_T29 l0 x9_2).f1) ((rd_T29 l0 x9_2).f2)) else ((dialtoneref12_begins.f a1 ((rd_T29 l0 x9_2).f0)).bind fun t338 => (if t338 = true then (dialtoneref12_Read.j5 kj24 l0 a1 a2 true x9_2 ((rd_T29 l0 x9_2).f0) ((rd_T29 l0 x9_2).f1) ((rd_T29 l0 x9_2).f2)) else ((dialtoneref12_begins.f ((rd_T29 l0 x9_2).f0) a1).bind fun t339 => (dialtoneref12_Read.j5 kj24 l0 a1 a2 t339 x9_2 ((rd_T29 l0 x9_2).f0) ((rd_T29 l0 x9_2).f1) ((rd_T29 l0 x9_2).f2)))))) = some (r1, r2, r3, r4, r5) := by rw [if_neg (show ¬ (false = true) by decide)] at H; exact H
         clear H
         have H := H1
         clear H1
         by_cases c53 : x8_2 = true
         ·subst c53
          have H1 : (dialtoneref12_Read.j5 kj24 l0 a1 a2 true x9_2 ((rd_T29 l0 x9_2).f0) ((rd_T29 l0 x9_2).f1) ((rd_T29 l0 x9_2).f2)) = some (r1, r2, r3, r4, r5) := by rw [if_pos rfl] at H; exact H
          clear H
          have H := H1
          clear H1
          have H' := Aside0.mk H
          clear H
          go_wp2
          go_meet
          case rel => exact ⟨_, (true), (x330000_2), (x330001_2), (x330002_2), (x330003_2), (zq1), H', ⟨zq132⟩, ⟨zq124⟩, ⟨zq127⟩, ⟨zq128⟩⟩
         replace c53 := Bool.eq_false_iff.mpr c53
         subst c53
         have H1 : ((dialtoneref12_begins.f a1 ((rd_T29 l0 x9_2).f0)).bind fun t338 => (if t338 = true then (dialtoneref12_Read.j5 kj24 l0 a1 a2 true x9_2 ((rd_T29 l0 x9_2).f0) ((rd_T29 l0 x9_2).f1) ((rd_T29 l0 x9_2).f2)) else ((dialtoneref12_begins.f ((rd_T29 l0 x9_2).f0) a1).bind fun t339 => (dialtoneref12_Read.j5 kj24 l0 a1 a2 t339 x9_2 ((rd_T29 l0 x9_2).f0) ((rd_T29 l0 x9_2).f1) ((rd_T29 l0 x9_2).f2))))) = some (r1, r2, r3, r4, r5) := by rw [if_neg (show ¬ (false = true) by decide)] at H; exact H
         clear H
         have H := H1
         clear H1
         replace H := Option.bind_eq_some_iff.mp H
         obtain ⟨t338, A540, H⟩ := H
         replace H : (if t338 = true then (dialtoneref12_Read.j5 kj24 l0 a1 a2 true x9_2 ((rd_T29 l0 x9_2).f0) ((rd_T29 l0 x9_2).f1) ((rd_T29 l0 x9_2).f2)) else ((dialtoneref12_begins.f ((rd_T29 l0 x9_2).f0) a1).bind fun t339 => (dialtoneref12_Read.j5 kj24 l0 a1 a2 t339 x9_2 ((rd_T29 l0 x9_2).f0) ((rd_T29 l0 x9_2).f1) ((rd_T29 l0 x9_2).f2)))) = some (r1, r2, r3, r4, r5) := H
         have A54 := Aside0.mk A540
         clear A540
         by_cases c55 : t338 = true
         ·subst c55
          have H1 : (dialtoneref12_Read.j5 kj24 l0 a1 a2 true x9_2 ((rd_T29 l0 x9_2).f0) ((rd_T29 l0 x9_2).f1) ((rd_T29 l0 x9_2).f2)) = some (r1, r2, r3, r4, r5) := by rw [if_pos rfl] at H; exact H
          clear H
          have H := H1
          clear H1
          have H' := Aside0.mk H
          clear H
          have hnb56 := NB334_329.out
          have hnc56 := NB329_334.out
          have hcz57_0 : wc.cell? ⟨gb334, 0, none⟩ = some (.string ((rd_T29 l0 x9_2).f0)) := (blk_cell BK334.out 0).trans rfl
          have hcz57_1 : wc.cell? ⟨gb334, 1, none⟩ = some (.string ((rd_T29 l0 x9_2).f1)) := (blk_cell BK334.out 1).trans rfl
          have hcz57_2 : wc.cell? ⟨gb334, 2, none⟩ = some (.int .i64 ((rd_T29 l0 x9_2).f2)) := (blk_cell BK334.out 2).trans rfl
          have hfz57_0 := blk_frozen BK334.out 0
          have hfz57_1 := blk_frozen BK334.out 1
          have hfz57_2 := blk_frozen BK334.out 2
          go_wp2_with (first | (go_at_call 52; (with_reducible refine (dialtoneref12_begins.calls a1 ((rd_T29 l0 x9_2).f0) true _ A54.out).mono ?_); rintro e w' ⟨rfl, ⟨nd, rfl⟩⟩))
          go_meet
          case rel => exact ⟨_, (true), (x330000_2), (x330001_2), (x330002_2), (x330003_2), (zq1), H', ⟨zq132⟩, ⟨zq124⟩, ⟨zq127⟩, ⟨zq128⟩⟩
         replace c55 := Bool.eq_false_iff.mpr c55
         subst c55
         have H1 : ((dialtoneref12_begins.f ((rd_T29 l0 x9_2).f0) a1).bind fun t339 => (dialtoneref12_Read.j5 kj24 l0 a1 a2 t339 x9_2 ((rd_T29 l0 x9_2).f0) ((rd_T29 l0 x9_2).f1) ((rd_T29 l0 x9_2).f2))) = some (r1, r2, r3, r4, r5) := by rw [if_neg (show ¬ (false = true) by decide)] at H; exact H
         clear H
         have H := H1
         clear H1
         replace H := Option.bind_eq_some_iff.mp H
         obtain ⟨t339, A580, H⟩ := H
         replace H : (dialtoneref12_Read.j5 kj24 l0 a1 a2 t339 x9_2 ((rd_T29 l0 x9_2).f0) ((rd_T29 l0 x9_2).f1) ((rd_T29 l0 x9_2).f2)) = some (r1, r2, r3, r4, r5) := H
         have A58 := Aside0.mk A580
         clear A580
         have H' := Aside0.mk H
         clear H
         have hnb59 := NB334_329.out
         have hnc59 := NB329_334.out
         have hcz60_0 : wc.cell? ⟨gb334, 0, none⟩ = some (.string ((rd_T29 l0 x9_2).f0)) := (blk_cell BK334.out 0).trans rfl
         have hcz60_1 : wc.cell? ⟨gb334, 1, none⟩ = some (.string ((rd_T29 l0 x9_2).f1)) := (blk_cell BK334.out 1).trans rfl
         have hcz60_2 : wc.cell? ⟨gb334, 2, none⟩ = some (.int .i64 ((rd_T29 l0 x9_2).f2)) := (blk_cell BK334.out 2).trans rfl
         have hfz60_0 := blk_frozen BK334.out 0
         have hfz60_1 := blk_frozen BK334.out 1
         have hfz60_2 := blk_frozen BK334.out 2
         go_wp2_with (first | (go_at_call 52; (with_reducible refine (dialtoneref12_begins.calls a1 ((rd_T29 l0 x9_2).f0) false _ A54.out).mono ?_); rintro e w' ⟨rfl, ⟨nd, rfl⟩⟩) | (go_at_call 52; (with_reducible refine (dialtoneref12_begins.calls ((rd_T29 l0 x9_2).f0) a1 t339 _ A58.out).mono ?_); rintro e w' ⟨rfl, ⟨nd, rfl⟩⟩))
         go_meet
         case rel => exact ⟨_, (t339), (x330000_2), (x330001_2), (x330002_2), (x330003_2), (zq1), H', ⟨zq132⟩, ⟨zq124⟩, ⟨zq127⟩, ⟨zq128⟩⟩
        subst c32
        have H1 : ((dialtoneref12_value.f kj24 ((rd_T29 l0 x9_2).f1)).bind fun t336 => (dialtoneref12_Read.l1 kj24 a1 x9_2 t336 0 ((rd_T29 l0 x9_2).f0) ((rd_T29 l0 x9_2).f1) ((rd_T29 l0 x9_2).f2))) = some (r1, r2, r3, r4, r5) := by rw [if_pos rfl] at H; exact H
        clear H
        have H := H1
        clear H1
        replace H := Option.bind_eq_some_iff.mp H
        obtain ⟨t336, A330, H⟩ := H
        replace H : (dialtoneref12_Read.l1 kj24 a1 x9_2 t336 0 ((rd_T29 l0 x9_2).f0) ((rd_T29 l0 x9_2).f1) ((rd_T29 l0 x9_2).f2)) = some (r1, r2, r3, r4, r5) := H
        have A33 := Aside0.mk A330
        clear A330
        have H' := Aside0.mk H
        clear H
        have hnb34 := NB334_329.out
        have hnc34 := NB329_334.out
        have hcz35_0 : wc.cell? ⟨gb334, 0, none⟩ = some (.string ((rd_T29 l0 x9_2).f0)) := (blk_cell BK334.out 0).trans rfl
        have hcz35_1 : wc.cell? ⟨gb334, 1, none⟩ = some (.string ((rd_T29 l0 x9_2).f1)) := (blk_cell BK334.out 1).trans rfl
        have hcz35_2 : wc.cell? ⟨gb334, 2, none⟩ = some (.int .i64 ((rd_T29 l0 x9_2).f2)) := (blk_cell BK334.out 2).trans rfl
        have hfz35_0 := blk_frozen BK334.out 0
        have hfz35_1 := blk_frozen BK334.out 1
        have hfz35_2 := blk_frozen BK334.out 2
        go_wp2_with (first | ((with_reducible refine gate_callee (f := 47) rfl ?_); refine goesL_ (some 58) rfl rfl Tryz.func47 (by kernel_rfl) rfl #[.string ((rd_T29 l0 x9_2).f1)] rfl (zq7) ?_; (with_reducible refine (dialtoneref12_value.calls kj24 ((rd_T29 l0 x9_2).f1) t336 _ A33.out).mono ?_); rintro e w' ⟨rfl, ⟨nd, rfl⟩⟩; refine ⟨_, rfl, ?_⟩))
        go_loopg [11, 12] kj24 (fun kq v11 v12 w' => ∃ (x11_4 : Int) (x12_4 : Int), v11 = .int .i64 x11_4 ∧ v12 = .int .i64 x12_4 ∧ Aside0 (dialtoneref12_Read.l1 kq a1 x9_2 x11_4 x12_4 ((rd_T29 l0 x9_2).f0) ((rd_T29 l0 x9_2).f1) ((rd_T29 l0 x9_2).f2) = some (r1, r2, r3, r4, r5)) ∧ Aside0 (kq ≤ kj24) ∧ Aside0 (w'.heap[gb329]? = some (.cells #[.int .i64 x330000_2, .int .i64 x330001_2, .int .i64 x330002_2, .int .i64 x330003_2] 44 (0, 0))) ∧ Aside0 (w'.heap[gb334]? = some (.cells #[.string ((rd_T29 l0 x9_2).f0), .string ((rd_T29 l0 x9_2).f1), .int .i64 ((rd_T29 l0 x9_2).f2)] 29 (0, 0))) ∧ Aside0 (Below w.heap.size w w'))
        case atStart => exact ⟨(t336), (0), (zq1), (zq1), H', ⟨Nat.le_refl _⟩, ⟨zq124⟩, ⟨zq127⟩, ⟨zq128⟩⟩
        case round =>
         clear H'
         try clear c1
         try clear c2
         try clear p2
         try clear c3
         try clear p3
         try clear q3
         try clear hx3
         try clear c4
         try clear c5
         try clear p6
         try clear c7
         try clear c9
         try clear c10
         try clear c10b0
         try clear c10b1
         try clear c16
         try clear c18
         try clear c18b0
         try clear c19
         try clear c19b0
         try clear c22
         try clear c24
         try clear c24b0
         try clear c24b1
         try clear c26
         try clear c27
         try clear c28
         try clear c30
         try clear c32
         try clear p33
         try clear q33
         try clear hx33
         try clear c34
         try clear hcz17_0
         try clear hcz17_1
         try clear hcz17_2
         try clear hcz17_3
         try clear hcz23_0
         try clear hcz23_1
         try clear hcz23_2
         try clear hcz29_0
         try clear hcz29_1
         try clear hcz29_2
         try clear hcz31_0
         try clear hcz31_1
         try clear hcz31_2
         try clear hcz35_0
         try clear hcz35_1
         try clear hcz35_2
         try clear hfz17_0
         try clear hfz17_1
         try clear hfz17_2
         try clear hfz17_3
         try clear hfz23_0
         try clear hfz23_1
         try clear hfz23_2
         try clear hfz29_0
         try clear hfz29_1
         try clear hfz29_2
         try clear hfz31_0
         try clear hfz31_1
         try clear hfz31_2
         try clear hfz35_0
         try clear hfz35_1
         try clear hfz35_2
         try clear hx333_0
         try clear hx333_1
         try clear hx333_2
         try clear p2
         try clear p3
         try clear p333
         try clear p6
         try clear q3
         try clear q333
         obtain ⟨x11_4, x12_4, rfl, rfl, HA, HK4, BK329, BK334, HB⟩ := hrel
         cases gk with
         | zero => exact absurd HA.out (by simp [dialtoneref12_Read.l1])
         | succ k4 =>
          have H := HA.out
          clear HA
          simp only [dialtoneref12_Read.l1] at H
          replace H := Option.bind_eq_some_iff.mp H
          obtain ⟨t337, A360, H⟩ := H
          replace H : (if x12_4 < (wrap64 ((wrap64 (8 - (((rd_T29 l0 x9_2).f1).size : Int))) - t337)) then (dialtoneref12_Read.l1 k4 a1 x9_2 (wrap64 (10 * x11_4)) (wrap64 (x12_4 + 1)) ((rd_T29 l0 x9_2).f0) ((rd_T29 l0 x9_2).f1) ((rd_T29 l0 x9_2).f2)) else (dialtoneref12_Read.l2 k4 a1 x9_2 x11_4 (((rd_T29 l0 x9_2).f0).size : Int) ((rd_T29 l0 x9_2).f0) ((rd_T29 l0 x9_2).f1) ((rd_T29 l0 x9_2).f2))) = some (r1, r2, r3, r4, r5) := H
          have A36 := Aside0.mk A360
          clear A360
          by_cases c37 : x12_4 < (wrap64 ((wrap64 (8 - (((rd_T29 l0 x9_2).f1).size : Int))) - t337))
          ·rw [if_pos c37] at H
           have c37b0 : decide (x12_4 < (wrap64 ((wrap64 (8 - (((rd_T29 l0 x9_2).f1).size : Int))) - t337))) = true := decide_eq_true c37
           clear c37
           have H' := Aside0.mk H
           clear H
           try go_wp2
           replace BK329 := Aside0.mk (blk_drew BK329.out)
           replace BK334 := Aside0.mk (blk_drew BK334.out)
           replace HB := Aside0.mk (below_drew1 HB.out)
           refine start_ (n := 9) (S := fun w' => w'.cell? ⟨gb334, 0, none⟩ = some (.string ((rd_T29 l0 x9_2).f0)) ∧ w'.cell? ⟨gb334, 1, none⟩ = some (.string ((rd_T29 l0 x9_2).f1)) ∧ w'.cell? ⟨gb334, 2, none⟩ = some (.int .i64 ((rd_T29 l0 x9_2).f2))) (ds := []) (bm 9 0) (by kernel_rfl) rfl rfl ⟨(blk_cell BK334.out 0).trans rfl, (blk_cell BK334.out 1).trans rfl, (blk_cell BK334.out 2).trans rfl⟩ (fun hHeld => ?_); refine with_tabW dialtoneref12_Read.tab12 dialtoneref12_Read.bits12 (fun HT_ HW_ => ?_)
           generalize wr.drew = w38 at BK329 BK334 HB hHeld ⊢
           refine pz 0 (some 59) (bm 9 1) HT_ ?_
           refine pz 1 (some 60) (bm 9 3) HT_ ?_
           refine tz 2 (some 61) (bm 9 7) HT_ HW_ hHeld ?_
           refine pz 3 (some 62) (bm 9 15) HT_ ?_
           refine pz 4 (some 63) (bm 9 31) HT_ ?_
           refine tz 5 (some 64) (bm 9 63) HT_ HW_ hHeld ?_
           refine one_ (i := 6) (N := some 65) (bm 9 127) rfl rfl (one_of HT_.out (by kernel_rfl)) (by decide) (fun K hK => ?_)
           refine goes_ Tryz.func48 (by kernel_rfl) rfl #[.agg #[.string ((rd_T29 l0 x9_2).f0), .string ((rd_T29 l0 x9_2).f1), .int .i64 ((rd_T29 l0 x9_2).f2)]] (by rfl) rfl rfl (zq7) ?_
           with_reducible refine (dialtoneref12_local.calls ((rd_T29 l0 x9_2).f0) ((rd_T29 l0 x9_2).f1) ((rd_T29 l0 x9_2).f2) t337 _ A36.out).mono ?_
           rintro e w39 ⟨rfl, hb⟩
           refine ⟨_, rfl, ?_⟩
           replace BK329 := Aside0.mk (blk_below (g := gb329) (o := .cells #[.int .i64 x330000_2, .int .i64 x330001_2, .int .i64 x330002_2, .int .i64 x330003_2] 44 (0, 0)) (zq124) hb)
           replace BK334 := Aside0.mk (blk_below (g := gb334) (o := .cells #[.string ((rd_T29 l0 x9_2).f0), .string ((rd_T29 l0 x9_2).f1), .int .i64 ((rd_T29 l0 x9_2).f2)] 29 (0, 0)) (zq127) hb)
           replace HB := Aside0.mk (below_step (zq128) hb)
           (try clear hb)
           (try clear hb2)
           (try clear hk)
           (try clear hi)
           refine hK.out _ _ ⟨(blk_cell BK334.out 0).trans rfl, (blk_cell BK334.out 1).trans rfl, (blk_cell BK334.out 2).trans rfl⟩ (fun hHeld => ?_)
           clear hK K
           refine nz (some 65) ?_
           refine pz 7 (some 66) (bm 9 255) HT_ ?_
           refine pz 8 (some 67) (bm 9 511) HT_ ?_
           refine done_ (done_of HT_.out (by kernel_rfl)) ?_
           try go_wp2
           go_roundg k4
           case measure => have := HJ3.out; have := HK2.out; have := HJ24.out; have := HK4.out; omega
           case rel => exact ⟨(wrap64 (10 * x11_4)), (wrap64 (x12_4 + 1)), (zq1), (zq1), H', ⟨by have := HJ3.out; have := HK2.out; have := HJ24.out; have := HK4.out; omega⟩, ⟨zq124⟩, ⟨zq127⟩, ⟨zq128⟩⟩
          rw [if_neg c37] at H
          have c37b0 : decide (x12_4 < (wrap64 ((wrap64 (8 - (((rd_T29 l0 x9_2).f1).size : Int))) - t337))) = false := decide_eq_false c37
          clear c37
          have H' := Aside0.mk H
          clear H
          try go_wp2
          replace BK329 := Aside0.mk (blk_drew BK329.out)
          replace BK334 := Aside0.mk (blk_drew BK334.out)
          replace HB := Aside0.mk (below_drew1 HB.out)
          refine start_ (n := 9) (S := fun w' => w'.cell? ⟨gb334, 0, none⟩ = some (.string ((rd_T29 l0 x9_2).f0)) ∧ w'.cell? ⟨gb334, 1, none⟩ = some (.string ((rd_T29 l0 x9_2).f1)) ∧ w'.cell? ⟨gb334, 2, none⟩ = some (.int .i64 ((rd_T29 l0 x9_2).f2))) (ds := []) (bm 9 0) (by kernel_rfl) rfl rfl ⟨(blk_cell BK334.out 0).trans rfl, (blk_cell BK334.out 1).trans rfl, (blk_cell BK334.out 2).trans rfl⟩ (fun hHeld => ?_); refine with_tabW dialtoneref12_Read.tab12 dialtoneref12_Read.bits12 (fun HT_ HW_ => ?_)
          generalize wr.drew = w40 at BK329 BK334 HB hHeld ⊢
          refine pz 0 (some 59) (bm 9 1) HT_ ?_
          refine pz 1 (some 60) (bm 9 3) HT_ ?_
          refine tz 2 (some 61) (bm 9 7) HT_ HW_ hHeld ?_
          refine pz 3 (some 62) (bm 9 15) HT_ ?_
          refine pz 4 (some 63) (bm 9 31) HT_ ?_
          refine tz 5 (some 64) (bm 9 63) HT_ HW_ hHeld ?_
          refine one_ (i := 6) (N := some 65) (bm 9 127) rfl rfl (one_of HT_.out (by kernel_rfl)) (by decide) (fun K hK => ?_)
          refine goes_ Tryz.func48 (by kernel_rfl) rfl #[.agg #[.string ((rd_T29 l0 x9_2).f0), .string ((rd_T29 l0 x9_2).f1), .int .i64 ((rd_T29 l0 x9_2).f2)]] (by rfl) rfl rfl (zq7) ?_
          with_reducible refine (dialtoneref12_local.calls ((rd_T29 l0 x9_2).f0) ((rd_T29 l0 x9_2).f1) ((rd_T29 l0 x9_2).f2) t337 _ A36.out).mono ?_
          rintro e w41 ⟨rfl, hb⟩
          refine ⟨_, rfl, ?_⟩
          replace BK329 := Aside0.mk (blk_below (g := gb329) (o := .cells #[.int .i64 x330000_2, .int .i64 x330001_2, .int .i64 x330002_2, .int .i64 x330003_2] 44 (0, 0)) (zq124) hb)
          replace BK334 := Aside0.mk (blk_below (g := gb334) (o := .cells #[.string ((rd_T29 l0 x9_2).f0), .string ((rd_T29 l0 x9_2).f1), .int .i64 ((rd_T29 l0 x9_2).f2)] 29 (0, 0)) (zq127) hb)
          replace HB := Aside0.mk (below_step (zq128) hb)
          (try clear hb)
          (try clear hb2)
          (try clear hk)
          (try clear hi)
          refine hK.out _ _ ⟨(blk_cell BK334.out 0).trans rfl, (blk_cell BK334.out 1).trans rfl, (blk_cell BK334.out 2).trans rfl⟩ (fun hHeld => ?_)
          clear hK K
          refine nz (some 65) ?_
          refine pz 7 (some 66) (bm 9 255) HT_ ?_
          refine pz 8 (some 67) (bm 9 511) HT_ ?_
          refine done_ (done_of HT_.out (by kernel_rfl)) ?_
          have hnb42 := NB334_329.out
          have hnc42 := NB329_334.out
          have hcz43_0 : w41.cell? ⟨gb334, 0, none⟩ = some (.string ((rd_T29 l0 x9_2).f0)) := (blk_cell BK334.out 0).trans rfl
          have hcz43_1 : w41.cell? ⟨gb334, 1, none⟩ = some (.string ((rd_T29 l0 x9_2).f1)) := (blk_cell BK334.out 1).trans rfl
          have hcz43_2 : w41.cell? ⟨gb334, 2, none⟩ = some (.int .i64 ((rd_T29 l0 x9_2).f2)) := (blk_cell BK334.out 2).trans rfl
          have hfz43_0 := blk_frozen BK334.out 0
          have hfz43_1 := blk_frozen BK334.out 1
          have hfz43_2 := blk_frozen BK334.out 2
          try go_wp2
          go_loopg [11, 13] k4 (fun kq v11 v13 w' => ∃ (x11_5 : Int) (x13_5 : Int), v11 = .int .i64 x11_5 ∧ v13 = .int .i64 x13_5 ∧ Aside0 (dialtoneref12_Read.l2 kq a1 x9_2 x11_5 x13_5 ((rd_T29 l0 x9_2).f0) ((rd_T29 l0 x9_2).f1) ((rd_T29 l0 x9_2).f2) = some (r1, r2, r3, r4, r5)) ∧ Aside0 (kq ≤ k4) ∧ Aside0 (w'.heap[gb329]? = some (.cells #[.int .i64 x330000_2, .int .i64 x330001_2, .int .i64 x330002_2, .int .i64 x330003_2] 44 (0, 0))) ∧ Aside0 (w'.heap[gb334]? = some (.cells #[.string ((rd_T29 l0 x9_2).f0), .string ((rd_T29 l0 x9_2).f1), .int .i64 ((rd_T29 l0 x9_2).f2)] 29 (0, 0))) ∧ Aside0 (Below w.heap.size w w'))
          case atStart => exact ⟨(x11_4), ((((rd_T29 l0 x9_2).f0).size : Int)), (zq1), (zq1), H', ⟨Nat.le_refl _⟩, ⟨zq124⟩, ⟨zq127⟩, ⟨zq128⟩⟩
          case round =>
           clear H'
           try clear c1
           try clear c2
           try clear p2
           try clear c3
           try clear p3
           try clear q3
           try clear hx3
           try clear c4
           try clear c5
           try clear p6
           try clear c7
           try clear c9
           try clear c10
           try clear c10b0
           try clear c10b1
           try clear c16
           try clear c18
           try clear c18b0
           try clear c19
           try clear c19b0
           try clear c22
           try clear c24
           try clear c24b0
           try clear c24b1
           try clear c26
           try clear c27
           try clear c28
           try clear c30
           try clear c32
           try clear p33
           try clear q33
           try clear hx33
           try clear c34
           try clear c37
           try clear c37b0
           try clear c42
           try clear hcz17_0
           try clear hcz17_1
           try clear hcz17_2
           try clear hcz17_3
           try clear hcz23_0
           try clear hcz23_1
           try clear hcz23_2
           try clear hcz29_0
           try clear hcz29_1
           try clear hcz29_2
           try clear hcz31_0
           try clear hcz31_1
           try clear hcz31_2
           try clear hcz35_0
           try clear hcz35_1
           try clear hcz35_2
           try clear hcz43_0
           try clear hcz43_1
           try clear hcz43_2
           try clear hfz17_0
           try clear hfz17_1
           try clear hfz17_2
           try clear hfz17_3
           try clear hfz23_0
           try clear hfz23_1
           try clear hfz23_2
           try clear hfz29_0
           try clear hfz29_1
           try clear hfz29_2
           try clear hfz31_0
           try clear hfz31_1
           try clear hfz31_2
           try clear hfz35_0
           try clear hfz35_1
           try clear hfz35_2
           try clear hfz43_0
           try clear hfz43_1
           try clear hfz43_2
           try clear hx333_0
           try clear hx333_1
           try clear hx333_2
           try clear p2
           try clear p3
           try clear p33
           try clear p333
           try clear p6
           try clear q3
           try clear q33
           try clear q333
           obtain ⟨x11_5, x13_5, rfl, rfl, HA, HK5, BK329, BK334, HB⟩ := hrel
           cases gk with
           | zero => exact absurd HA.out (by simp [dialtoneref12_Read.l2])
           | succ k5 =>
            have H := HA.out
            clear HA
            simp only [dialtoneref12_Read.l2] at H
            by_cases c44 : x13_5 < ((rd_T29 l0 x9_2).f2)
            ·rw [if_pos c44] at H
             have c44b0 : decide (x13_5 < ((rd_T29 l0 x9_2).f2)) = true := decide_eq_true c44
             clear c44
             by_cases c45 : 0 ≤ x13_5
             rotate_left
             ·rw [if_neg c45] at H
              exact absurd H (by simp)
             rw [if_pos c45] at H
             have c45b0 : decide (0 ≤ x13_5) = true := decide_eq_true c45
             clear c45
             by_cases c46 : x13_5 < (a1.size : Int)
             rotate_left
             ·rw [if_neg c46] at H
              exact absurd H (by simp)
             rw [if_pos c46] at H
             have c46b0 : decide (x13_5 < (a1.size : Int)) = true := decide_eq_true c46
             clear c46
             have H' := Aside0.mk H
             clear H
             have hnb48 := NB334_329.out
             have hnc48 := NB329_334.out
             have hcz49_0 : wr.cell? ⟨gb334, 0, none⟩ = some (.string ((rd_T29 l0 x9_2).f0)) := (blk_cell BK334.out 0).trans rfl
             have hcz49_1 : wr.cell? ⟨gb334, 1, none⟩ = some (.string ((rd_T29 l0 x9_2).f1)) := (blk_cell BK334.out 1).trans rfl
             have hcz49_2 : wr.cell? ⟨gb334, 2, none⟩ = some (.int .i64 ((rd_T29 l0 x9_2).f2)) := (blk_cell BK334.out 2).trans rfl
             have hfz49_0 := blk_frozen BK334.out 0
             have hfz49_1 := blk_frozen BK334.out 1
             have hfz49_2 := blk_frozen BK334.out 2
             have p47 : 0 ≤ (x13_5 : Int) := of_decide_eq_true (zq18)
             have q47 : x13_5 < (a1.size : Int) := of_decide_eq_true (zq18)
             have hx47 := bt_at a1 x13_5
             replace p47 := eq_true p47
             replace q47 := eq_true q47
             go_wp2
             go_roundg k5
             case measure => have := HJ3.out; have := HK2.out; have := HJ24.out; have := HK4.out; have := HK5.out; omega
             case rel => exact ⟨(wrap64 ((wrap64 (10 * x11_5)) + (((bt a1 x13_5) - 48) % 256))), (wrap64 (x13_5 + 1)), (zq1), (zq1), H', ⟨by have := HJ3.out; have := HK2.out; have := HJ24.out; have := HK4.out; have := HK5.out; omega⟩, ⟨zq124⟩, ⟨zq127⟩, ⟨zq128⟩⟩
            rw [if_neg c44] at H
            have c44b0 : decide (x13_5 < ((rd_T29 l0 x9_2).f2)) = false := decide_eq_false c44
            clear c44
            simp only [Option.some.injEq, Prod.mk.injEq] at H
            obtain ⟨rfl, rfl, rfl, rfl, rfl⟩ := H
            have hnb50 := NB334_329.out
            have hnc50 := NB329_334.out
            have hcz51_0 : wr.cell? ⟨gb334, 0, none⟩ = some (.string ((rd_T29 l0 x9_2).f0)) := (blk_cell BK334.out 0).trans rfl
            have hcz51_1 : wr.cell? ⟨gb334, 1, none⟩ = some (.string ((rd_T29 l0 x9_2).f1)) := (blk_cell BK334.out 1).trans rfl
            have hcz51_2 : wr.cell? ⟨gb334, 2, none⟩ = some (.int .i64 ((rd_T29 l0 x9_2).f2)) := (blk_cell BK334.out 2).trans rfl
            have hfz51_0 := blk_frozen BK334.out 0
            have hfz51_1 := blk_frozen BK334.out 1
            have hfz51_2 := blk_frozen BK334.out 2
            have hcz52_0 : wr.cell? ⟨gb329, 0, none⟩ = some (.int .i64 x330000_2) := (blk_cell BK329.out 0).trans rfl
            have hcz52_1 : wr.cell? ⟨gb329, 1, none⟩ = some (.int .i64 x330001_2) := (blk_cell BK329.out 1).trans rfl
            have hcz52_2 : wr.cell? ⟨gb329, 2, none⟩ = some (.int .i64 x330002_2) := (blk_cell BK329.out 2).trans rfl
            have hcz52_3 : wr.cell? ⟨gb329, 3, none⟩ = some (.int .i64 x330003_2) := (blk_cell BK329.out 3).trans rfl
            have hfz52_0 := blk_frozen BK329.out 0
            have hfz52_1 := blk_frozen BK329.out 1
            have hfz52_2 := blk_frozen BK329.out 2
            have hfz52_3 := blk_frozen BK329.out 3
            go_wp2
            refine bodyPost_ret (results_ct rfl _ _ gb329 44 #[.int .i64 2, .int .i64 x11_5, .int .i64 x9_2, .int .i64 ((rd_T29 l0 x9_2).f2)] (0, 0) _ rfl (by (with_reducible repeat (first | refine blk_drewN ?_ _ | refine blk_drew ?_ | refine blk_alloc ?_ _)); refine blk_put (cs := #[.int .i64 2, .int .i64 x11_5, .int .i64 x9_2, .int .i64 x330003_2]) ?_ 3 _ rfl; (with_reducible repeat (first | refine blk_drewN ?_ _ | refine blk_drew ?_ | refine blk_alloc ?_ _)); refine blk_put (cs := #[.int .i64 2, .int .i64 x11_5, .int .i64 x330002_2, .int .i64 x330003_2]) ?_ 2 _ rfl; (with_reducible repeat (first | refine blk_drewN ?_ _ | refine blk_drew ?_ | refine blk_alloc ?_ _)); refine blk_put (cs := #[.int .i64 2, .int .i64 x330001_2, .int .i64 x330002_2, .int .i64 x330003_2]) ?_ 1 _ rfl; (with_reducible repeat (first | refine blk_drewN ?_ _ | refine blk_drew ?_ | refine blk_alloc ?_ _)); refine blk_put (cs := #[.int .i64 x330000_2, .int .i64 x330001_2, .int .i64 x330002_2, .int .i64 x330003_2]) ?_ 0 _ rfl; (with_reducible repeat (first | refine blk_drewN ?_ _ | refine blk_drew ?_ | refine blk_alloc ?_ _)); exact BK329.out) Tryz.underlying44 rfl (by kernel_rfl)) rfl ?_
            exact ⟨zq6, zq128⟩
     case rest =>
      clear HC20
      try clear c1
      try clear c2
      try clear p2
      try clear c3
      try clear p3
      try clear q3
      try clear hx3
      try clear c4
      try clear p4
      try clear q4
      try clear hx4
      try clear c5
      try clear p6
      try clear c7
      try clear c9
      try clear c10
      try clear c10b0
      try clear c10b1
      try clear c16
      try clear c18
      try clear c18b0
      try clear c19
      try clear c19b0
      try clear c22
      try clear c24
      try clear c24b0
      try clear c24b1
      try clear c26
      try clear c27
      try clear c28
      try clear c30
      try clear c32
      try clear p33
      try clear q33
      try clear hx33
      try clear c34
      try clear c37
      try clear c37b0
      try clear c42
      try clear c44
      try clear c44b0
      try clear c45
      try clear c45b0
      try clear c46
      try clear c46b0
      try clear c47
      try clear p47
      try clear q47
      try clear hx47
      try clear c48
      try clear c50
      try clear c53
      try clear c55
      try clear c56
      try clear c59
      try clear hcz17_0
      try clear hcz17_1
      try clear hcz17_2
      try clear hcz17_3
      try clear hcz23_0
      try clear hcz23_1
      try clear hcz23_2
      try clear hcz29_0
      try clear hcz29_1
      try clear hcz29_2
      try clear hcz31_0
      try clear hcz31_1
      try clear hcz31_2
      try clear hcz35_0
      try clear hcz35_1
      try clear hcz35_2
      try clear hcz43_0
      try clear hcz43_1
      try clear hcz43_2
      try clear hcz49_0
      try clear hcz49_1
      try clear hcz49_2
      try clear hcz51_0
      try clear hcz51_1
      try clear hcz51_2
      try clear hcz52_0
      try clear hcz52_1
      try clear hcz52_2
      try clear hcz52_3
      try clear hcz57_0
      try clear hcz57_1
      try clear hcz57_2
      try clear hcz60_0
      try clear hcz60_1
      try clear hcz60_2
      try clear hfz17_0
      try clear hfz17_1
      try clear hfz17_2
      try clear hfz17_3
      try clear hfz23_0
      try clear hfz23_1
      try clear hfz23_2
      try clear hfz29_0
      try clear hfz29_1
      try clear hfz29_2
      try clear hfz31_0
      try clear hfz31_1
      try clear hfz31_2
      try clear hfz35_0
      try clear hfz35_1
      try clear hfz35_2
      try clear hfz43_0
      try clear hfz43_1
      try clear hfz43_2
      try clear hfz49_0
      try clear hfz49_1
      try clear hfz49_2
      try clear hfz51_0
      try clear hfz51_1
      try clear hfz51_2
      try clear hfz52_0
      try clear hfz52_1
      try clear hfz52_2
      try clear hfz52_3
      try clear hfz57_0
      try clear hfz57_1
      try clear hfz57_2
      try clear hfz60_0
      try clear hfz60_1
      try clear hfz60_2
      try clear hx333_0
      try clear hx333_1
      try clear hx333_2
      try clear p2
      try clear p3
      try clear p33
      try clear p333
      try clear p47
      try clear p6
      try clear q3
      try clear q33
      try clear q333
      try clear q47
      obtain ⟨kq, x8_19, x330000_19, x330001_19, x330002_19, x330003_19, rfl, HA, HJ19, BK329, BK334, HB⟩ := hcut
      cases kq with
      | zero => exact absurd HA.out (by simp [dialtoneref12_Read.j5])
      | succ kj19 =>
       have H := HA.out
       clear HA
       simp only [dialtoneref12_Read.j5] at H
       by_cases c61 : a2 = 1
       ·rw [if_pos c61] at H
        have c61b0 : (a2 == 1) = true := beq_iff_eq.mpr c61
        have c61b1 : (a2 != 1) = false := bne_eq_false_iff_eq.mpr c61
        clear c61
        have H' := Aside0.mk H
        clear H
        go_wp2
        go_roundg kj19
        case measure => have := HJ3.out; have := HK2.out; have := HJ19.out; omega
        case rel => exact ⟨(x8_19), (wrap64 (x9_2 + 1)), (x330000_19), (x330001_19), (x330002_19), (x330003_19), (zq1), (zq1), H', ⟨by have := HJ3.out; have := HK2.out; have := HJ19.out; omega⟩, ⟨zq124⟩, ⟨zq128⟩⟩
       rw [if_neg c61] at H
       have c61b0 : (a2 == 1) = false := beq_eq_false_iff_ne.mpr c61
       have c61b1 : (a2 != 1) = true := bne_iff_ne.mpr c61
       have HC62 := Aside0.mk H
       clear H
       go_upto_region 22 with (fail)
       go_cut [117] (fun v117 wc => ∃ (kq : Nat) (x117_61 : Bool), v117 = .bool x117_61 ∧ Aside0 (dialtoneref12_Read.j6 kq l0 a1 a2 x8_19 x9_2 x117_61 ((rd_T29 l0 x9_2).f0) ((rd_T29 l0 x9_2).f1) ((rd_T29 l0 x9_2).f2) = some (r1, r2, r3, r4, r5)) ∧ Aside0 (kq ≤ kj19) ∧ Aside0 (wc.heap[gb329]? = some (.cells #[.int .i64 x330000_19, .int .i64 x330001_19, .int .i64 x330002_19, .int .i64 x330003_19] 44 (0, 0))) ∧ Aside0 (wc.heap[gb334]? = some (.cells #[.string ((rd_T29 l0 x9_2).f0), .string ((rd_T29 l0 x9_2).f1), .int .i64 ((rd_T29 l0 x9_2).f2)] 29 (0, 0))) ∧ Aside0 (Below w.heap.size w wc))
       case first =>
        have H := HC62.out
        clear HC62
        replace H := Option.bind_eq_some_iff.mp H
        obtain ⟨t340, A630, H⟩ := H
        replace H : (if t340 = true then (dialtoneref12_Read.j6 kj19 l0 a1 a2 x8_19 x9_2 (decide ((a1.size : Int) ≥ 8)) ((rd_T29 l0 x9_2).f0) ((rd_T29 l0 x9_2).f1) ((rd_T29 l0 x9_2).f2)) else (dialtoneref12_Read.j6 kj19 l0 a1 a2 x8_19 x9_2 false ((rd_T29 l0 x9_2).f0) ((rd_T29 l0 x9_2).f1) ((rd_T29 l0 x9_2).f2))) = some (r1, r2, r3, r4, r5) := H
        have A63 := Aside0.mk A630
        clear A630
        by_cases c64 : t340 = true
        ·subst c64
         have H1 : (dialtoneref12_Read.j6 kj19 l0 a1 a2 x8_19 x9_2 (decide ((a1.size : Int) ≥ 8)) ((rd_T29 l0 x9_2).f0) ((rd_T29 l0 x9_2).f1) ((rd_T29 l0 x9_2).f2)) = some (r1, r2, r3, r4, r5) := by rw [if_pos rfl] at H; exact H
         clear H
         have H := H1
         clear H1
         have H' := Aside0.mk H
         clear H
         have hnb65 := NB334_329.out
         have hnc65 := NB329_334.out
         have hcz66_0 : wc.cell? ⟨gb334, 0, none⟩ = some (.string ((rd_T29 l0 x9_2).f0)) := (blk_cell BK334.out 0).trans rfl
         have hcz66_1 : wc.cell? ⟨gb334, 1, none⟩ = some (.string ((rd_T29 l0 x9_2).f1)) := (blk_cell BK334.out 1).trans rfl
         have hcz66_2 : wc.cell? ⟨gb334, 2, none⟩ = some (.int .i64 ((rd_T29 l0 x9_2).f2)) := (blk_cell BK334.out 2).trans rfl
         have hfz66_0 := blk_frozen BK334.out 0
         have hfz66_1 := blk_frozen BK334.out 1
         have hfz66_2 := blk_frozen BK334.out 2
         go_wp2_with (first | ((with_reducible refine gate_callee (f := 52) rfl ?_); refine goesL_ (some 112) rfl rfl Tryz.func52 (by kernel_rfl) rfl #[.string ((rd_T29 l0 x9_2).f1), .string a1] rfl (zq7) ?_; (with_reducible refine (dialtoneref12_begins.calls ((rd_T29 l0 x9_2).f1) a1 true _ A63.out).mono ?_); rintro e w' ⟨rfl, ⟨nd, rfl⟩⟩; refine ⟨_, rfl, ?_⟩))
         go_meet
         case rel => exact ⟨_, (decide ((a1.size : Int) ≥ 8)), (zq1), H', ⟨zq133⟩, ⟨zq124⟩, ⟨zq127⟩, ⟨zq128⟩⟩
        replace c64 := Bool.eq_false_iff.mpr c64
        subst c64
        have H1 : (dialtoneref12_Read.j6 kj19 l0 a1 a2 x8_19 x9_2 false ((rd_T29 l0 x9_2).f0) ((rd_T29 l0 x9_2).f1) ((rd_T29 l0 x9_2).f2)) = some (r1, r2, r3, r4, r5) := by rw [if_neg (show ¬ (false = true) by decide)] at H; exact H
        clear H
        have H := H1
        clear H1
        have H' := Aside0.mk H
        clear H
        have hnb67 := NB334_329.out
        have hnc67 := NB329_334.out
        have hcz68_0 : wc.cell? ⟨gb334, 0, none⟩ = some (.string ((rd_T29 l0 x9_2).f0)) := (blk_cell BK334.out 0).trans rfl
        have hcz68_1 : wc.cell? ⟨gb334, 1, none⟩ = some (.string ((rd_T29 l0 x9_2).f1)) := (blk_cell BK334.out 1).trans rfl
        have hcz68_2 : wc.cell? ⟨gb334, 2, none⟩ = some (.int .i64 ((rd_T29 l0 x9_2).f2)) := (blk_cell BK334.out 2).trans rfl
        have hfz68_0 := blk_frozen BK334.out 0
        have hfz68_1 := blk_frozen BK334.out 1
        have hfz68_2 := blk_frozen BK334.out 2
        go_wp2_with (first | ((with_reducible refine gate_callee (f := 52) rfl ?_); refine goesL_ (some 112) rfl rfl Tryz.func52 (by kernel_rfl) rfl #[.string ((rd_T29 l0 x9_2).f1), .string a1] rfl (zq7) ?_; (with_reducible refine (dialtoneref12_begins.calls ((rd_T29 l0 x9_2).f1) a1 false _ A63.out).mono ?_); rintro e w' ⟨rfl, ⟨nd, rfl⟩⟩; refine ⟨_, rfl, ?_⟩))
        go_meet
        case rel => exact ⟨_, (false), (zq1), H', ⟨zq133⟩, ⟨zq124⟩, ⟨zq127⟩, ⟨zq128⟩⟩
       case rest =>
        clear HC62
        try clear c1
        try clear c2
        try clear p2
        try clear c3
        try clear p3
        try clear q3
        try clear hx3
        try clear c4
        try clear p4
        try clear q4
        try clear hx4
        try clear c5
        try clear c6
        try clear p6
        try clear c7
        try clear c9
        try clear c10
        try clear c10b0
        try clear c10b1
        try clear c16
        try clear c18
        try clear c18b0
        try clear c19
        try clear c19b0
        try clear c22
        try clear c24
        try clear c24b0
        try clear c24b1
        try clear c26
        try clear c27
        try clear c28
        try clear c30
        try clear c32
        try clear p33
        try clear q33
        try clear hx33
        try clear c34
        try clear c37
        try clear c37b0
        try clear c42
        try clear c44
        try clear c44b0
        try clear c45
        try clear c45b0
        try clear c46
        try clear c46b0
        try clear c47
        try clear p47
        try clear q47
        try clear hx47
        try clear c48
        try clear c50
        try clear c52
        try clear c53
        try clear c55
        try clear c56
        try clear c59
        try clear c61
        try clear c61b0
        try clear c61b1
        try clear c64
        try clear p64
        try clear c65
        try clear c67
        try clear hcz17_0
        try clear hcz17_1
        try clear hcz17_2
        try clear hcz17_3
        try clear hcz23_0
        try clear hcz23_1
        try clear hcz23_2
        try clear hcz29_0
        try clear hcz29_1
        try clear hcz29_2
        try clear hcz31_0
        try clear hcz31_1
        try clear hcz31_2
        try clear hcz35_0
        try clear hcz35_1
        try clear hcz35_2
        try clear hcz43_0
        try clear hcz43_1
        try clear hcz43_2
        try clear hcz49_0
        try clear hcz49_1
        try clear hcz49_2
        try clear hcz51_0
        try clear hcz51_1
        try clear hcz51_2
        try clear hcz52_0
        try clear hcz52_1
        try clear hcz52_2
        try clear hcz52_3
        try clear hcz57_0
        try clear hcz57_1
        try clear hcz57_2
        try clear hcz60_0
        try clear hcz60_1
        try clear hcz60_2
        try clear hcz66_0
        try clear hcz66_1
        try clear hcz66_2
        try clear hcz68_0
        try clear hcz68_1
        try clear hcz68_2
        try clear hfz17_0
        try clear hfz17_1
        try clear hfz17_2
        try clear hfz17_3
        try clear hfz23_0
        try clear hfz23_1
        try clear hfz23_2
        try clear hfz29_0
        try clear hfz29_1
        try clear hfz29_2
        try clear hfz31_0
        try clear hfz31_1
        try clear hfz31_2
        try clear hfz35_0
        try clear hfz35_1
        try clear hfz35_2
        try clear hfz43_0
        try clear hfz43_1
        try clear hfz43_2
        try clear hfz49_0
        try clear hfz49_1
        try clear hfz49_2
        try clear hfz51_0
        try clear hfz51_1
        try clear hfz51_2
        try clear hfz52_0
        try clear hfz52_1
        try clear hfz52_2
        try clear hfz52_3
        try clear hfz57_0
        try clear hfz57_1
        try clear hfz57_2
        try clear hfz60_0
        try clear hfz60_1
        try clear hfz60_2
        try clear hfz66_0
        try clear hfz66_1
        try clear hfz66_2
        try clear hfz68_0
        try clear hfz68_1
        try clear hfz68_2
        try clear hx333_0
        try clear hx333_1
        try clear hx333_2
        try clear p2
        try clear p3
        try clear p33
        try clear p333
        try clear p4
        try clear p47
        try clear p6
        try clear q3
        try clear q33
        try clear q333
        try clear q4
        try clear q47
        obtain ⟨kq, x117_61, rfl, HA, HJ61, BK329, BK334, HB⟩ := hcut
        cases kq with
        | zero => exact absurd HA.out (by simp [dialtoneref12_Read.j6])
        | succ kj61 =>
         have H := HA.out
         clear HA
         simp only [dialtoneref12_Read.j6] at H
         by_cases c69 : x117_61 = true
         ·subst c69
          have H1 : (if 0 ≤ 8 then (if 8 ≤ (a1.size : Int) then ((dialtoneref12_value.f kj61 (a1.extract 0 8)).bind fun t341 => (some (2, t341, x9_2, 8, 0))) else (none)) else (none)) = some (r1, r2, r3, r4, r5) := by rw [if_pos rfl] at H; exact H
          clear H
          have H := H1
          clear H1
          by_cases c70 : 0 ≤ 8
          rotate_left
          ·rw [if_neg c70] at H
           exact absurd H (by simp)
          rw [if_pos c70] at H
          have c70b0 := eq_true c70
          have c70b1 : decide (0 ≤ 8) = true := decide_eq_true c70
          clear c70
          by_cases c71 : 8 ≤ (a1.size : Int)
          rotate_left
          ·rw [if_neg c71] at H
           exact absurd H (by simp)
          rw [if_pos c71] at H
          have c71b0 := eq_true c71
          have c71b1 : decide (8 ≤ (a1.size : Int)) = true := decide_eq_true c71
          clear c71
          replace H := Option.bind_eq_some_iff.mp H
          obtain ⟨t341, A720, H⟩ := H
          replace H : (some (2, t341, x9_2, 8, 0)) = some (r1, r2, r3, r4, r5) := H
          have A72 := Aside0.mk A720
          clear A720
          simp only [Option.some.injEq, Prod.mk.injEq] at H
          obtain ⟨rfl, rfl, rfl, rfl, rfl⟩ := H
          go_wp2_with (first | ((with_reducible refine gate_callee (f := 47) rfl ?_); refine goesL_ (some 120) rfl rfl Tryz.func47 (by kernel_rfl) rfl #[.string (a1.extract 0 8)] rfl (zq7) ?_; (with_reducible refine (dialtoneref12_value.calls kj61 (a1.extract 0 8) t341 _ A72.out).mono ?_); rintro e w' ⟨rfl, ⟨nd, rfl⟩⟩; refine ⟨_, rfl, ?_⟩; (try (rw [drewN_self wc]; generalize hq_ : World.drewN wc _ = wc; replace BK329 : Aside0 (wc.heap[gb329]? = some (.cells #[.int .i64 x330000_19, .int .i64 x330001_19, .int .i64 x330002_19, .int .i64 x330003_19] 44 (0, 0))) := ⟨by rw [← hq_]; exact (zq124)⟩; replace BK334 : Aside0 (wc.heap[gb334]? = some (.cells #[.string ((rd_T29 l0 x9_2).f0), .string ((rd_T29 l0 x9_2).f1), .int .i64 ((rd_T29 l0 x9_2).f2)] 29 (0, 0))) := ⟨by rw [← hq_]; exact (zq127)⟩; replace HB : Aside0 (Below w.heap.size w wc) := ⟨by rw [← hq_]; exact (zq128)⟩; clear hq_)); have hnb73 := NB329_334.out; have hnc73 := NB334_329.out; have hcz74_0 : wc.cell? ⟨gb329, 0, none⟩ = some (.int .i64 x330000_19) := (blk_cell BK329.out 0).trans rfl; have hcz74_1 : wc.cell? ⟨gb329, 1, none⟩ = some (.int .i64 x330001_19) := (blk_cell BK329.out 1).trans rfl; have hcz74_2 : wc.cell? ⟨gb329, 2, none⟩ = some (.int .i64 x330002_19) := (blk_cell BK329.out 2).trans rfl; have hcz74_3 : wc.cell? ⟨gb329, 3, none⟩ = some (.int .i64 x330003_19) := (blk_cell BK329.out 3).trans rfl; have hfz74_0 := blk_frozen BK329.out 0; have hfz74_1 := blk_frozen BK329.out 1; have hfz74_2 := blk_frozen BK329.out 2; have hfz74_3 := blk_frozen BK329.out 3))
          refine bodyPost_ret (results_ct rfl _ _ gb329 44 #[.int .i64 2, .int .i64 t341, .int .i64 x9_2, .int .i64 8] (0, 0) _ rfl (by (with_reducible repeat (first | refine blk_drewN ?_ _ | refine blk_drew ?_ | refine blk_alloc ?_ _)); refine blk_put (cs := #[.int .i64 2, .int .i64 t341, .int .i64 x9_2, .int .i64 x330003_19]) ?_ 3 _ rfl; (with_reducible repeat (first | refine blk_drewN ?_ _ | refine blk_drew ?_ | refine blk_alloc ?_ _)); refine blk_put (cs := #[.int .i64 2, .int .i64 t341, .int .i64 x330002_19, .int .i64 x330003_19]) ?_ 2 _ rfl; (with_reducible repeat (first | refine blk_drewN ?_ _ | refine blk_drew ?_ | refine blk_alloc ?_ _)); refine blk_put (cs := #[.int .i64 2, .int .i64 x330001_19, .int .i64 x330002_19, .int .i64 x330003_19]) ?_ 1 _ rfl; (with_reducible repeat (first | refine blk_drewN ?_ _ | refine blk_drew ?_ | refine blk_alloc ?_ _)); refine blk_put (cs := #[.int .i64 x330000_19, .int .i64 x330001_19, .int .i64 x330002_19, .int .i64 x330003_19]) ?_ 0 _ rfl; (with_reducible repeat (first | refine blk_drewN ?_ _ | refine blk_drew ?_ | refine blk_alloc ?_ _)); exact BK329.out) Tryz.underlying44 rfl (by kernel_rfl)) rfl ?_
          exact ⟨zq6, zq128⟩
         replace c69 := Bool.eq_false_iff.mpr c69
         subst c69
         have H1 : (if x8_19 = true then (dialtoneref12_Read.l0 kj61 l0 a1 a2 true (wrap64 (x9_2 + 1))) else ((dialtoneref12_begins.f a1 ((rd_T29 l0 x9_2).f1)).bind fun t342 => (if t342 = true then (dialtoneref12_Read.l0 kj61 l0 a1 a2 true (wrap64 (x9_2 + 1))) else ((dialtoneref12_begins.f ((rd_T29 l0 x9_2).f1) a1).bind fun t343 => (dialtoneref12_Read.l0 kj61 l0 a1 a2 t343 (wrap64 (x9_2 + 1))))))) = some (r1, r2, r3, r4, r5) := by rw [if_neg (show ¬ (false = true) by decide)] at H; exact H
         clear H
         have H := H1
         clear H1
         by_cases c75 : x8_19 = true
         ·subst c75
          have H1 : (dialtoneref12_Read.l0 kj61 l0 a1 a2 true (wrap64 (x9_2 + 1))) = some (r1, r2, r3, r4, r5) := by rw [if_pos rfl] at H; exact H
          clear H
          have H := H1
          clear H1
          have H' := Aside0.mk H
          clear H
          go_wp2
          go_roundg kj61
          case measure => have := HJ3.out; have := HK2.out; have := HJ19.out; have := HJ61.out; omega
          case rel => exact ⟨(true), (wrap64 (x9_2 + 1)), (x330000_19), (x330001_19), (x330002_19), (x330003_19), (zq1), (zq1), H', ⟨zq134⟩, ⟨zq124⟩, ⟨zq128⟩⟩
         replace c75 := Bool.eq_false_iff.mpr c75
         subst c75
         have H1 : ((dialtoneref12_begins.f a1 ((rd_T29 l0 x9_2).f1)).bind fun t342 => (if t342 = true then (dialtoneref12_Read.l0 kj61 l0 a1 a2 true (wrap64 (x9_2 + 1))) else ((dialtoneref12_begins.f ((rd_T29 l0 x9_2).f1) a1).bind fun t343 => (dialtoneref12_Read.l0 kj61 l0 a1 a2 t343 (wrap64 (x9_2 + 1)))))) = some (r1, r2, r3, r4, r5) := by rw [if_neg (show ¬ (false = true) by decide)] at H; exact H
         clear H
         have H := H1
         clear H1
         replace H := Option.bind_eq_some_iff.mp H
         obtain ⟨t342, A760, H⟩ := H
         replace H : (if t342 = true then (dialtoneref12_Read.l0 kj61 l0 a1 a2 true (wrap64 (x9_2 + 1))) else ((dialtoneref12_begins.f ((rd_T29 l0 x9_2).f1) a1).bind fun t343 => (dialtoneref12_Read.l0 kj61 l0 a1 a2 t343 (wrap64 (x9_2 + 1))))) = some (r1, r2, r3, r4, r5) := H
         have A76 := Aside0.mk A760
         clear A760
         by_cases c77 : t342 = true
         ·subst c77
          have H1 : (dialtoneref12_Read.l0 kj61 l0 a1 a2 true (wrap64 (x9_2 + 1))) = some (r1, r2, r3, r4, r5) := by rw [if_pos rfl] at H; exact H
          clear H
          have H := H1
          clear H1
          have H' := Aside0.mk H
          clear H
          have hnb78 := NB334_329.out
          have hnc78 := NB329_334.out
          have hcz79_0 : wc.cell? ⟨gb334, 0, none⟩ = some (.string ((rd_T29 l0 x9_2).f0)) := (blk_cell BK334.out 0).trans rfl
          have hcz79_1 : wc.cell? ⟨gb334, 1, none⟩ = some (.string ((rd_T29 l0 x9_2).f1)) := (blk_cell BK334.out 1).trans rfl
          have hcz79_2 : wc.cell? ⟨gb334, 2, none⟩ = some (.int .i64 ((rd_T29 l0 x9_2).f2)) := (blk_cell BK334.out 2).trans rfl
          have hfz79_0 := blk_frozen BK334.out 0
          have hfz79_1 := blk_frozen BK334.out 1
          have hfz79_2 := blk_frozen BK334.out 2
          go_wp2_with (first | (go_at_call 52; (with_reducible refine (dialtoneref12_begins.calls a1 ((rd_T29 l0 x9_2).f1) true _ A76.out).mono ?_); rintro e w' ⟨rfl, ⟨nd, rfl⟩⟩))
          go_roundg kj61
          case measure => have := HJ3.out; have := HK2.out; have := HJ19.out; have := HJ61.out; omega
          case rel => exact ⟨(true), (wrap64 (x9_2 + 1)), (x330000_19), (x330001_19), (x330002_19), (x330003_19), (zq1), (zq1), H', ⟨zq134⟩, ⟨zq124⟩, ⟨zq128⟩⟩
         replace c77 := Bool.eq_false_iff.mpr c77
         subst c77
         have H1 : ((dialtoneref12_begins.f ((rd_T29 l0 x9_2).f1) a1).bind fun t343 => (dialtoneref12_Read.l0 kj61 l0 a1 a2 t343 (wrap64 (x9_2 + 1)))) = some (r1, r2, r3, r4, r5) := by rw [if_neg (show ¬ (false = true) by decide)] at H; exact H
         clear H
         have H := H1
         clear H1
         replace H := Option.bind_eq_some_iff.mp H
         obtain ⟨t343, A800, H⟩ := H
         replace H : (dialtoneref12_Read.l0 kj61 l0 a1 a2 t343 (wrap64 (x9_2 + 1))) = some (r1, r2, r3, r4, r5) := H
         have A80 := Aside0.mk A800
         clear A800
         have H' := Aside0.mk H
         clear H
         have hnb81 := NB334_329.out
         have hnc81 := NB329_334.out
         have hcz82_0 : wc.cell? ⟨gb334, 0, none⟩ = some (.string ((rd_T29 l0 x9_2).f0)) := (blk_cell BK334.out 0).trans rfl
         have hcz82_1 : wc.cell? ⟨gb334, 1, none⟩ = some (.string ((rd_T29 l0 x9_2).f1)) := (blk_cell BK334.out 1).trans rfl
         have hcz82_2 : wc.cell? ⟨gb334, 2, none⟩ = some (.int .i64 ((rd_T29 l0 x9_2).f2)) := (blk_cell BK334.out 2).trans rfl
         have hfz82_0 := blk_frozen BK334.out 0
         have hfz82_1 := blk_frozen BK334.out 1
         have hfz82_2 := blk_frozen BK334.out 2
         go_wp2_with (first | (go_at_call 52; (with_reducible refine (dialtoneref12_begins.calls a1 ((rd_T29 l0 x9_2).f1) false _ A76.out).mono ?_); rintro e w' ⟨rfl, ⟨nd, rfl⟩⟩) | (go_at_call 52; (with_reducible refine (dialtoneref12_begins.calls ((rd_T29 l0 x9_2).f1) a1 t343 _ A80.out).mono ?_); rintro e w' ⟨rfl, ⟨nd, rfl⟩⟩))
         go_roundg kj61
         case measure => have := HJ3.out; have := HK2.out; have := HJ19.out; have := HJ61.out; omega
         case rel => exact ⟨(t343), (wrap64 (x9_2 + 1)), (x330000_19), (x330001_19), (x330002_19), (x330003_19), (zq1), (zq1), H', ⟨zq134⟩, ⟨zq124⟩, ⟨zq128⟩⟩
end Go.Proofs.YtlmfoblgheepoaaGreatDoor.Pl
end
section
open Go.Proofs.YtlmfoblgheepoaaGreatDoor.Z
namespace Go.Proofs.YtlmfoblgheepoaaGreatDoor.Pl
open Go.RowKit Go.Proofs.YtlmfoblgheepoaaGreatDoorW.PrintWords Go.Proofs.YtlmfoblgheepoaaGreatDoorW.PrintLast Go.Proofs.YtlmfoblgheepoaaGreatDoorW.PrintMore
attribute [local go_sem] max2_int min2_int max_two min_two max_three min_three max_four min_four
set_option linter.unusedVariables false
set_option linter.unusedSimpArgs false
def dialtoneref12_Same.f (k : Nat) (l0 : List (S29)) (a1 : ByteArray) (a2 : ByteArray) : Option (Bool) := (dialtoneref12_Read.f k l0 a1 2).bind fun bt344 => ((dialtoneref12_Read.f k l0 a2 2).bind fun bt350 => (if bt344.2.2.2.2 = 0 then (if bt350.2.2.2.2 = 0 then (if bt344.1 = 2 then (if bt350.1 = 2 then (if bt344.2.1 = bt350.2.1 then (if bt344.2.2.2.1 = (a1.size : Int) then (some (bt350.2.2.2.1 == (a2.size : Int))) else (some false)) else (some false)) else (some false)) else (some false)) else (some false)) else (some false)))
set_option maxHeartbeats 8000000 in
set_option maxRecDepth 100000 in
theorem dialtoneref12_Same.calls (k : Nat) (A0 : Option Addr) (c0 : Nat) (l0 : List (S29)) (a1 : ByteArray) (a2 : ByteArray) (r : Bool) (w : World) (hr0 : Kd.C k29 w A0 l0.length l0) (hc0 : l0.length ≤ c0) (h : dialtoneref12_Same.f k l0 a1 a2 = some r) :
 Calls Tryz.prog 24 #[.slice A0 l0.length c0, .string a1, .string a2] w fun e w' => e = .returned (.bool r) ∧ Below w.heap.size w w' := by
 have hu44 := Tryz.underlying44
 have HR0 := Aside0.mk hr0
 have HC0 := Aside0.mk hc0
 clear hr0 hc0
 have HB := Aside0.mk (Below.refl w.heap.size w)
 have H : ((dialtoneref12_Read.f k l0 a1 2).bind fun bt344 => ((dialtoneref12_Read.f k l0 a2 2).bind fun bt350 => (if bt344.2.2.2.2 = 0 then (if bt350.2.2.2.2 = 0 then (if bt344.1 = 2 then (if bt350.1 = 2 then (if bt344.2.1 = bt350.2.1 then (if bt344.2.2.2.1 = (a1.size : Int) then (some (bt350.2.2.2.1 == (a2.size : Int))) else (some false)) else (some false)) else (some false)) else (some false)) else (some false)) else (some false)))) = some r := h
 clear h
 replace H := Option.bind_eq_some_iff.mp H
 obtain ⟨⟨t344, t345, t346, t347, t348⟩, A40, H⟩ := H
 try dsimp only at H
 have A4 := Aside0.mk A40
 clear A40
 replace H := Option.bind_eq_some_iff.mp H
 obtain ⟨⟨t350, t351, t352, t353, t354⟩, A50, H⟩ := H
 try dsimp only at H
 have A5 := Aside0.mk A50
 clear A50
 by_cases c6 : t348 = 0
 rotate_left
 ·rw [if_neg c6] at H
  have c6b0 : (t348 == 0) = false := beq_eq_false_iff_ne.mpr c6
  have c6b1 : (t348 != 0) = true := bne_iff_ne.mpr c6
  obtain rfl := Option.some.inj H
  go_enter Tryz.func24, Tryz.ntmps24
  go_wp2_with (first | ((with_reducible refine gate_callee (f := 22) rfl ?_); refine goesL_ (some 14) rfl rfl Tryz.func22 (by kernel_rfl) rfl #[.slice A0 l0.length c0, .string a1, .int .i64 2] rfl (zq7) ?_; (with_reducible refine (dialtoneref12_Read.calls k _ _ l0 a1 2 t344 t345 t346 t347 t348 _ ?side1 ?side2 A4.out).mono ?_); (case side1 => exact zq135); (case side2 => exact zq29); rintro e w59 ⟨rfl, hb⟩; refine ⟨_, rfl, ?_⟩; replace HB := Aside0.mk (below_step (zq5) hb); (try clear hb); (try clear hb2); (try clear hk); (try clear hi)) | ((with_reducible refine gate_dst (N := 7) rfl ?_); (try (refine gate_guard (by rfl) ?_; dsimp only)); refine box_event ?hg (N := 7) ?hd (cs := #[.int .i64 0, .int .i64 0, .int .i64 0, .int .i64 0]) (t := 44) ?hr ?_; (case hd => rfl); (case hg => rfl); (case hr => exact zq3); intro gb349 hg w60 hbox hb; have BK349 := Aside0.mk (hbox); have GW349 := Aside0.mk ((zq4 : w.heap.size ≤ gb349)); have GE349 := Aside0.mk ((zq4 : w.heap.size ≤ gb349)); replace HB := Aside0.mk (below_step (zq5) hb); clear hb hbox hg; have hcz61_0 : w60.cell? ⟨gb349, 0, none⟩ = some (.int .i64 0) := (blk_cell BK349.out 0).trans rfl; have hcz61_1 : w60.cell? ⟨gb349, 1, none⟩ = some (.int .i64 0) := (blk_cell BK349.out 1).trans rfl; have hcz61_2 : w60.cell? ⟨gb349, 2, none⟩ = some (.int .i64 0) := (blk_cell BK349.out 2).trans rfl; have hcz61_3 : w60.cell? ⟨gb349, 3, none⟩ = some (.int .i64 0) := (blk_cell BK349.out 3).trans rfl; have hfz61_0 := blk_frozen BK349.out 0; have hfz61_1 := blk_frozen BK349.out 1; have hfz61_2 := blk_frozen BK349.out 2; have hfz61_3 := blk_frozen BK349.out 3) | ((with_reducible refine gate_callee (f := 22) rfl ?_); refine goesL_ (some 20) rfl rfl Tryz.func22 (by kernel_rfl) rfl #[.slice A0 l0.length c0, .string a2, .int .i64 2] rfl (zq7) ?_; (with_reducible refine (dialtoneref12_Read.calls k _ _ l0 a2 2 t350 t351 t352 t353 t354 _ ?side1 ?side2 A5.out).mono ?_); (case side1 => exact zq136); (case side2 => exact zq29); rintro e w62 ⟨rfl, hb⟩; refine ⟨_, rfl, ?_⟩; replace BK349 := Aside0.mk (blk_below (g := gb349) (o := .cells #[.int .i64 t344, .int .i64 t345, .int .i64 t346, .int .i64 t347] 44 (0, 0)) (zq138) hb); replace HB := Aside0.mk (below_step (zq137) hb); (try clear hb); (try clear hb2); (try clear hk); (try clear hi)) | ((with_reducible refine gate_dst (N := 9) rfl ?_); (try (refine gate_guard (by rfl) ?_; dsimp only)); refine box_event ?hg (N := 9) ?hd (cs := #[.int .i64 0, .int .i64 0, .int .i64 0, .int .i64 0]) (t := 44) ?hr ?_; (case hd => rfl); (case hg => rfl); (case hr => exact zq3); intro gb355 hg w63 hbox hb; have BK355 := Aside0.mk (hbox); have GW355 := Aside0.mk ((zq139 : w.heap.size ≤ gb355)); have GE355 := Aside0.mk ((zq139 : w.heap.size ≤ gb355)); replace HB := Aside0.mk (below_step (zq137) hb); have NB349_355 := Aside0.mk ((zq140 : gb349 ≠ gb355)); have NB355_349 := Aside0.mk ((zq142 : gb355 ≠ gb349)); replace BK349 := Aside0.mk (blk_below (g := gb349) (o := .cells #[.int .i64 t344, .int .i64 t345, .int .i64 t346, .int .i64 t347] 44 (0, 0)) (zq141) hb); clear hb hbox hg; have hnb64 := NB355_349.out; have hnc64 := NB349_355.out; have hcz65_0 : w63.cell? ⟨gb355, 0, none⟩ = some (.int .i64 0) := (blk_cell BK355.out 0).trans rfl; have hcz65_1 : w63.cell? ⟨gb355, 1, none⟩ = some (.int .i64 0) := (blk_cell BK355.out 1).trans rfl; have hcz65_2 : w63.cell? ⟨gb355, 2, none⟩ = some (.int .i64 0) := (blk_cell BK355.out 2).trans rfl; have hcz65_3 : w63.cell? ⟨gb355, 3, none⟩ = some (.int .i64 0) := (blk_cell BK355.out 3).trans rfl; have hfz65_0 := blk_frozen BK355.out 0; have hfz65_1 := blk_frozen BK355.out 1; have hfz65_2 := blk_frozen BK355.out 2; have hfz65_3 := blk_frozen BK355.out 3))
  go_ret
  exact ⟨zq6, zq143⟩
 rw [if_pos c6] at H
 have c6b0 : (t348 == 0) = true := beq_iff_eq.mpr c6
 have c6b1 : (t348 != 0) = false := bne_eq_false_iff_eq.mpr c6
 clear c6
 by_cases c7 : t354 = 0
 rotate_left
 ·rw [if_neg c7] at H
  have c7b0 : (t354 == 0) = false := beq_eq_false_iff_ne.mpr c7
  have c7b1 : (t354 != 0) = true := bne_iff_ne.mpr c7
  obtain rfl := Option.some.inj H
  go_enter Tryz.func24, Tryz.ntmps24
  go_wp2_with (first | ((with_reducible refine gate_callee (f := 22) rfl ?_); refine goesL_ (some 14) rfl rfl Tryz.func22 (by kernel_rfl) rfl #[.slice A0 l0.length c0, .string a1, .int .i64 2] rfl (zq7) ?_; (with_reducible refine (dialtoneref12_Read.calls k _ _ l0 a1 2 t344 t345 t346 t347 t348 _ ?side1 ?side2 A4.out).mono ?_); (case side1 => exact zq135); (case side2 => exact zq29); rintro e w52 ⟨rfl, hb⟩; refine ⟨_, rfl, ?_⟩; replace HB := Aside0.mk (below_step (zq5) hb); (try clear hb); (try clear hb2); (try clear hk); (try clear hi)) | ((with_reducible refine gate_dst (N := 7) rfl ?_); (try (refine gate_guard (by rfl) ?_; dsimp only)); refine box_event ?hg (N := 7) ?hd (cs := #[.int .i64 0, .int .i64 0, .int .i64 0, .int .i64 0]) (t := 44) ?hr ?_; (case hd => rfl); (case hg => rfl); (case hr => exact zq3); intro gb349 hg w53 hbox hb; have BK349 := Aside0.mk (hbox); have GW349 := Aside0.mk ((zq4 : w.heap.size ≤ gb349)); have GE349 := Aside0.mk ((zq4 : w.heap.size ≤ gb349)); replace HB := Aside0.mk (below_step (zq5) hb); clear hb hbox hg; have hcz54_0 : w53.cell? ⟨gb349, 0, none⟩ = some (.int .i64 0) := (blk_cell BK349.out 0).trans rfl; have hcz54_1 : w53.cell? ⟨gb349, 1, none⟩ = some (.int .i64 0) := (blk_cell BK349.out 1).trans rfl; have hcz54_2 : w53.cell? ⟨gb349, 2, none⟩ = some (.int .i64 0) := (blk_cell BK349.out 2).trans rfl; have hcz54_3 : w53.cell? ⟨gb349, 3, none⟩ = some (.int .i64 0) := (blk_cell BK349.out 3).trans rfl; have hfz54_0 := blk_frozen BK349.out 0; have hfz54_1 := blk_frozen BK349.out 1; have hfz54_2 := blk_frozen BK349.out 2; have hfz54_3 := blk_frozen BK349.out 3) | ((with_reducible refine gate_callee (f := 22) rfl ?_); refine goesL_ (some 20) rfl rfl Tryz.func22 (by kernel_rfl) rfl #[.slice A0 l0.length c0, .string a2, .int .i64 2] rfl (zq7) ?_; (with_reducible refine (dialtoneref12_Read.calls k _ _ l0 a2 2 t350 t351 t352 t353 t354 _ ?side1 ?side2 A5.out).mono ?_); (case side1 => exact zq136); (case side2 => exact zq29); rintro e w55 ⟨rfl, hb⟩; refine ⟨_, rfl, ?_⟩; replace BK349 := Aside0.mk (blk_below (g := gb349) (o := .cells #[.int .i64 t344, .int .i64 t345, .int .i64 t346, .int .i64 t347] 44 (0, 0)) (zq138) hb); replace HB := Aside0.mk (below_step (zq137) hb); (try clear hb); (try clear hb2); (try clear hk); (try clear hi)) | ((with_reducible refine gate_dst (N := 9) rfl ?_); (try (refine gate_guard (by rfl) ?_; dsimp only)); refine box_event ?hg (N := 9) ?hd (cs := #[.int .i64 0, .int .i64 0, .int .i64 0, .int .i64 0]) (t := 44) ?hr ?_; (case hd => rfl); (case hg => rfl); (case hr => exact zq3); intro gb355 hg w56 hbox hb; have BK355 := Aside0.mk (hbox); have GW355 := Aside0.mk ((zq139 : w.heap.size ≤ gb355)); have GE355 := Aside0.mk ((zq139 : w.heap.size ≤ gb355)); replace HB := Aside0.mk (below_step (zq137) hb); have NB349_355 := Aside0.mk ((zq140 : gb349 ≠ gb355)); have NB355_349 := Aside0.mk ((zq142 : gb355 ≠ gb349)); replace BK349 := Aside0.mk (blk_below (g := gb349) (o := .cells #[.int .i64 t344, .int .i64 t345, .int .i64 t346, .int .i64 t347] 44 (0, 0)) (zq141) hb); clear hb hbox hg; have hnb57 := NB355_349.out; have hnc57 := NB349_355.out; have hcz58_0 : w56.cell? ⟨gb355, 0, none⟩ = some (.int .i64 0) := (blk_cell BK355.out 0).trans rfl; have hcz58_1 : w56.cell? ⟨gb355, 1, none⟩ = some (.int .i64 0) := (blk_cell BK355.out 1).trans rfl; have hcz58_2 : w56.cell? ⟨gb355, 2, none⟩ = some (.int .i64 0) := (blk_cell BK355.out 2).trans rfl; have hcz58_3 : w56.cell? ⟨gb355, 3, none⟩ = some (.int .i64 0) := (blk_cell BK355.out 3).trans rfl; have hfz58_0 := blk_frozen BK355.out 0; have hfz58_1 := blk_frozen BK355.out 1; have hfz58_2 := blk_frozen BK355.out 2; have hfz58_3 := blk_frozen BK355.out 3))
  go_ret
  exact ⟨zq6, zq143⟩
 rw [if_pos c7] at H
 have c7b0 : (t354 == 0) = true := beq_iff_eq.mpr c7
 have c7b1 : (t354 != 0) = false := bne_eq_false_iff_eq.mpr c7
 clear c7
 by_cases c8 : t344 = 2
 rotate_left
 ·rw [if_neg c8] at H
  have c8b0 : (t344 == 2) = false := beq_eq_false_iff_ne.mpr c8
  have c8b1 : (t344 != 2) = true := bne_iff_ne.mpr c8
  obtain rfl := Option.some.inj H
  go_enter Tryz.func24, Tryz.ntmps24
  go_wp2_with (first | ((with_reducible refine gate_callee (f := 22) rfl ?_); refine goesL_ (some 14) rfl rfl Tryz.func22 (by kernel_rfl) rfl #[.slice A0 l0.length c0, .string a1, .int .i64 2] rfl (zq7) ?_; (with_reducible refine (dialtoneref12_Read.calls k _ _ l0 a1 2 t344 t345 t346 t347 t348 _ ?side1 ?side2 A4.out).mono ?_); (case side1 => exact zq135); (case side2 => exact zq29); rintro e w44 ⟨rfl, hb⟩; refine ⟨_, rfl, ?_⟩; replace HB := Aside0.mk (below_step (zq5) hb); (try clear hb); (try clear hb2); (try clear hk); (try clear hi)) | ((with_reducible refine gate_dst (N := 7) rfl ?_); (try (refine gate_guard (by rfl) ?_; dsimp only)); refine box_event ?hg (N := 7) ?hd (cs := #[.int .i64 0, .int .i64 0, .int .i64 0, .int .i64 0]) (t := 44) ?hr ?_; (case hd => rfl); (case hg => rfl); (case hr => exact zq3); intro gb349 hg w45 hbox hb; have BK349 := Aside0.mk (hbox); have GW349 := Aside0.mk ((zq4 : w.heap.size ≤ gb349)); have GE349 := Aside0.mk ((zq4 : w.heap.size ≤ gb349)); replace HB := Aside0.mk (below_step (zq5) hb); clear hb hbox hg; have hcz46_0 : w45.cell? ⟨gb349, 0, none⟩ = some (.int .i64 0) := (blk_cell BK349.out 0).trans rfl; have hcz46_1 : w45.cell? ⟨gb349, 1, none⟩ = some (.int .i64 0) := (blk_cell BK349.out 1).trans rfl; have hcz46_2 : w45.cell? ⟨gb349, 2, none⟩ = some (.int .i64 0) := (blk_cell BK349.out 2).trans rfl; have hcz46_3 : w45.cell? ⟨gb349, 3, none⟩ = some (.int .i64 0) := (blk_cell BK349.out 3).trans rfl; have hfz46_0 := blk_frozen BK349.out 0; have hfz46_1 := blk_frozen BK349.out 1; have hfz46_2 := blk_frozen BK349.out 2; have hfz46_3 := blk_frozen BK349.out 3) | ((with_reducible refine gate_callee (f := 22) rfl ?_); refine goesL_ (some 20) rfl rfl Tryz.func22 (by kernel_rfl) rfl #[.slice A0 l0.length c0, .string a2, .int .i64 2] rfl (zq7) ?_; (with_reducible refine (dialtoneref12_Read.calls k _ _ l0 a2 2 t350 t351 t352 t353 t354 _ ?side1 ?side2 A5.out).mono ?_); (case side1 => exact zq136); (case side2 => exact zq29); rintro e w47 ⟨rfl, hb⟩; refine ⟨_, rfl, ?_⟩; replace BK349 := Aside0.mk (blk_below (g := gb349) (o := .cells #[.int .i64 t344, .int .i64 t345, .int .i64 t346, .int .i64 t347] 44 (0, 0)) (zq138) hb); replace HB := Aside0.mk (below_step (zq137) hb); (try clear hb); (try clear hb2); (try clear hk); (try clear hi)) | ((with_reducible refine gate_dst (N := 9) rfl ?_); (try (refine gate_guard (by rfl) ?_; dsimp only)); refine box_event ?hg (N := 9) ?hd (cs := #[.int .i64 0, .int .i64 0, .int .i64 0, .int .i64 0]) (t := 44) ?hr ?_; (case hd => rfl); (case hg => rfl); (case hr => exact zq3); intro gb355 hg w48 hbox hb; have BK355 := Aside0.mk (hbox); have GW355 := Aside0.mk ((zq139 : w.heap.size ≤ gb355)); have GE355 := Aside0.mk ((zq139 : w.heap.size ≤ gb355)); replace HB := Aside0.mk (below_step (zq137) hb); have NB349_355 := Aside0.mk ((zq140 : gb349 ≠ gb355)); have NB355_349 := Aside0.mk ((zq142 : gb355 ≠ gb349)); replace BK349 := Aside0.mk (blk_below (g := gb349) (o := .cells #[.int .i64 t344, .int .i64 t345, .int .i64 t346, .int .i64 t347] 44 (0, 0)) (zq141) hb); clear hb hbox hg; have hnb49 := NB355_349.out; have hnc49 := NB349_355.out; have hcz50_0 : w48.cell? ⟨gb355, 0, none⟩ = some (.int .i64 0) := (blk_cell BK355.out 0).trans rfl; have hcz50_1 : w48.cell? ⟨gb355, 1, none⟩ = some (.int .i64 0) := (blk_cell BK355.out 1).trans rfl; have hcz50_2 : w48.cell? ⟨gb355, 2, none⟩ = some (.int .i64 0) := (blk_cell BK355.out 2).trans rfl; have hcz50_3 : w48.cell? ⟨gb355, 3, none⟩ = some (.int .i64 0) := (blk_cell BK355.out 3).trans rfl; have hfz50_0 := blk_frozen BK355.out 0; have hfz50_1 := blk_frozen BK355.out 1; have hfz50_2 := blk_frozen BK355.out 2; have hfz50_3 := blk_frozen BK355.out 3; have hcz51_0 : w48.cell? ⟨gb349, 0, none⟩ = some (.int .i64 t344) := (blk_cell BK349.out 0).trans rfl; have hcz51_1 : w48.cell? ⟨gb349, 1, none⟩ = some (.int .i64 t345) := (blk_cell BK349.out 1).trans rfl; have hcz51_2 : w48.cell? ⟨gb349, 2, none⟩ = some (.int .i64 t346) := (blk_cell BK349.out 2).trans rfl; have hcz51_3 : w48.cell? ⟨gb349, 3, none⟩ = some (.int .i64 t347) := (blk_cell BK349.out 3).trans rfl; have hfz51_0 := blk_frozen BK349.out 0; have hfz51_1 := blk_frozen BK349.out 1; have hfz51_2 := blk_frozen BK349.out 2; have hfz51_3 := blk_frozen BK349.out 3))
  go_ret
  exact ⟨zq6, zq143⟩
 rw [if_pos c8] at H
 have c8b0 : (t344 == 2) = true := beq_iff_eq.mpr c8
 have c8b1 : (t344 != 2) = false := bne_eq_false_iff_eq.mpr c8
 clear c8
 by_cases c9 : t350 = 2
 rotate_left
 ·rw [if_neg c9] at H
  have c9b0 : (t350 == 2) = false := beq_eq_false_iff_ne.mpr c9
  have c9b1 : (t350 != 2) = true := bne_iff_ne.mpr c9
  obtain rfl := Option.some.inj H
  go_enter Tryz.func24, Tryz.ntmps24
  go_wp2_with (first | ((with_reducible refine gate_callee (f := 22) rfl ?_); refine goesL_ (some 14) rfl rfl Tryz.func22 (by kernel_rfl) rfl #[.slice A0 l0.length c0, .string a1, .int .i64 2] rfl (zq7) ?_; (with_reducible refine (dialtoneref12_Read.calls k _ _ l0 a1 2 t344 t345 t346 t347 t348 _ ?side1 ?side2 A4.out).mono ?_); (case side1 => exact zq135); (case side2 => exact zq29); rintro e w36 ⟨rfl, hb⟩; refine ⟨_, rfl, ?_⟩; replace HB := Aside0.mk (below_step (zq5) hb); (try clear hb); (try clear hb2); (try clear hk); (try clear hi)) | ((with_reducible refine gate_dst (N := 7) rfl ?_); (try (refine gate_guard (by rfl) ?_; dsimp only)); refine box_event ?hg (N := 7) ?hd (cs := #[.int .i64 0, .int .i64 0, .int .i64 0, .int .i64 0]) (t := 44) ?hr ?_; (case hd => rfl); (case hg => rfl); (case hr => exact zq3); intro gb349 hg w37 hbox hb; have BK349 := Aside0.mk (hbox); have GW349 := Aside0.mk ((zq4 : w.heap.size ≤ gb349)); have GE349 := Aside0.mk ((zq4 : w.heap.size ≤ gb349)); replace HB := Aside0.mk (below_step (zq5) hb); clear hb hbox hg; have hcz38_0 : w37.cell? ⟨gb349, 0, none⟩ = some (.int .i64 0) := (blk_cell BK349.out 0).trans rfl; have hcz38_1 : w37.cell? ⟨gb349, 1, none⟩ = some (.int .i64 0) := (blk_cell BK349.out 1).trans rfl; have hcz38_2 : w37.cell? ⟨gb349, 2, none⟩ = some (.int .i64 0) := (blk_cell BK349.out 2).trans rfl; have hcz38_3 : w37.cell? ⟨gb349, 3, none⟩ = some (.int .i64 0) := (blk_cell BK349.out 3).trans rfl; have hfz38_0 := blk_frozen BK349.out 0; have hfz38_1 := blk_frozen BK349.out 1; have hfz38_2 := blk_frozen BK349.out 2; have hfz38_3 := blk_frozen BK349.out 3) | ((with_reducible refine gate_callee (f := 22) rfl ?_); refine goesL_ (some 20) rfl rfl Tryz.func22 (by kernel_rfl) rfl #[.slice A0 l0.length c0, .string a2, .int .i64 2] rfl (zq7) ?_; (with_reducible refine (dialtoneref12_Read.calls k _ _ l0 a2 2 t350 t351 t352 t353 t354 _ ?side1 ?side2 A5.out).mono ?_); (case side1 => exact zq136); (case side2 => exact zq29); rintro e w39 ⟨rfl, hb⟩; refine ⟨_, rfl, ?_⟩; replace BK349 := Aside0.mk (blk_below (g := gb349) (o := .cells #[.int .i64 t344, .int .i64 t345, .int .i64 t346, .int .i64 t347] 44 (0, 0)) (zq138) hb); replace HB := Aside0.mk (below_step (zq137) hb); (try clear hb); (try clear hb2); (try clear hk); (try clear hi)) | ((with_reducible refine gate_dst (N := 9) rfl ?_); (try (refine gate_guard (by rfl) ?_; dsimp only)); refine box_event ?hg (N := 9) ?hd (cs := #[.int .i64 0, .int .i64 0, .int .i64 0, .int .i64 0]) (t := 44) ?hr ?_; (case hd => rfl); (case hg => rfl); (case hr => exact zq3); intro gb355 hg w40 hbox hb; have BK355 := Aside0.mk (hbox); have GW355 := Aside0.mk ((zq139 : w.heap.size ≤ gb355)); have GE355 := Aside0.mk ((zq139 : w.heap.size ≤ gb355)); replace HB := Aside0.mk (below_step (zq137) hb); have NB349_355 := Aside0.mk ((zq140 : gb349 ≠ gb355)); have NB355_349 := Aside0.mk ((zq142 : gb355 ≠ gb349)); replace BK349 := Aside0.mk (blk_below (g := gb349) (o := .cells #[.int .i64 t344, .int .i64 t345, .int .i64 t346, .int .i64 t347] 44 (0, 0)) (zq141) hb); clear hb hbox hg; have hnb41 := NB355_349.out; have hnc41 := NB349_355.out; have hcz42_0 : w40.cell? ⟨gb355, 0, none⟩ = some (.int .i64 0) := (blk_cell BK355.out 0).trans rfl; have hcz42_1 : w40.cell? ⟨gb355, 1, none⟩ = some (.int .i64 0) := (blk_cell BK355.out 1).trans rfl; have hcz42_2 : w40.cell? ⟨gb355, 2, none⟩ = some (.int .i64 0) := (blk_cell BK355.out 2).trans rfl; have hcz42_3 : w40.cell? ⟨gb355, 3, none⟩ = some (.int .i64 0) := (blk_cell BK355.out 3).trans rfl; have hfz42_0 := blk_frozen BK355.out 0; have hfz42_1 := blk_frozen BK355.out 1; have hfz42_2 := blk_frozen BK355.out 2; have hfz42_3 := blk_frozen BK355.out 3; have hcz43_0 : w40.cell? ⟨gb349, 0, none⟩ = some (.int .i64 t344) := (blk_cell BK349.out 0).trans rfl; have hcz43_1 : w40.cell? ⟨gb349, 1, none⟩ = some (.int .i64 t345) := (blk_cell BK349.out 1).trans rfl; have hcz43_2 : w40.cell? ⟨gb349, 2, none⟩ = some (.int .i64 t346) := (blk_cell BK349.out 2).trans rfl; have hcz43_3 : w40.cell? ⟨gb349, 3, none⟩ = some (.int .i64 t347) := (blk_cell BK349.out 3).trans rfl; have hfz43_0 := blk_frozen BK349.out 0; have hfz43_1 := blk_frozen BK349.out 1; have hfz43_2 := blk_frozen BK349.out 2; have hfz43_3 := blk_frozen BK349.out 3))
  go_ret
  exact ⟨zq6, zq143⟩
 rw [if_pos c9] at H
 have c9b0 : (t350 == 2) = true := beq_iff_eq.mpr c9
 have c9b1 : (t350 != 2) = false := bne_eq_false_iff_eq.mpr c9
 clear c9
 by_cases c10 : t345 = t351
 rotate_left
 ·rw [if_neg c10] at H
  have c10b0 : (t345 == t351) = false := beq_eq_false_iff_ne.mpr c10
  have c10b1 : (t345 != t351) = true := bne_iff_ne.mpr c10
  obtain rfl := Option.some.inj H
  go_enter Tryz.func24, Tryz.ntmps24
  go_wp2_with (first | ((with_reducible refine gate_callee (f := 22) rfl ?_); refine goesL_ (some 14) rfl rfl Tryz.func22 (by kernel_rfl) rfl #[.slice A0 l0.length c0, .string a1, .int .i64 2] rfl (zq7) ?_; (with_reducible refine (dialtoneref12_Read.calls k _ _ l0 a1 2 t344 t345 t346 t347 t348 _ ?side1 ?side2 A4.out).mono ?_); (case side1 => exact zq135); (case side2 => exact zq29); rintro e w28 ⟨rfl, hb⟩; refine ⟨_, rfl, ?_⟩; replace HB := Aside0.mk (below_step (zq5) hb); (try clear hb); (try clear hb2); (try clear hk); (try clear hi)) | ((with_reducible refine gate_dst (N := 7) rfl ?_); (try (refine gate_guard (by rfl) ?_; dsimp only)); refine box_event ?hg (N := 7) ?hd (cs := #[.int .i64 0, .int .i64 0, .int .i64 0, .int .i64 0]) (t := 44) ?hr ?_; (case hd => rfl); (case hg => rfl); (case hr => exact zq3); intro gb349 hg w29 hbox hb; have BK349 := Aside0.mk (hbox); have GW349 := Aside0.mk ((zq4 : w.heap.size ≤ gb349)); have GE349 := Aside0.mk ((zq4 : w.heap.size ≤ gb349)); replace HB := Aside0.mk (below_step (zq5) hb); clear hb hbox hg; have hcz30_0 : w29.cell? ⟨gb349, 0, none⟩ = some (.int .i64 0) := (blk_cell BK349.out 0).trans rfl; have hcz30_1 : w29.cell? ⟨gb349, 1, none⟩ = some (.int .i64 0) := (blk_cell BK349.out 1).trans rfl; have hcz30_2 : w29.cell? ⟨gb349, 2, none⟩ = some (.int .i64 0) := (blk_cell BK349.out 2).trans rfl; have hcz30_3 : w29.cell? ⟨gb349, 3, none⟩ = some (.int .i64 0) := (blk_cell BK349.out 3).trans rfl; have hfz30_0 := blk_frozen BK349.out 0; have hfz30_1 := blk_frozen BK349.out 1; have hfz30_2 := blk_frozen BK349.out 2; have hfz30_3 := blk_frozen BK349.out 3) | ((with_reducible refine gate_callee (f := 22) rfl ?_); refine goesL_ (some 20) rfl rfl Tryz.func22 (by kernel_rfl) rfl #[.slice A0 l0.length c0, .string a2, .int .i64 2] rfl (zq7) ?_; (with_reducible refine (dialtoneref12_Read.calls k _ _ l0 a2 2 t350 t351 t352 t353 t354 _ ?side1 ?side2 A5.out).mono ?_); (case side1 => exact zq136); (case side2 => exact zq29); rintro e w31 ⟨rfl, hb⟩; refine ⟨_, rfl, ?_⟩; replace BK349 := Aside0.mk (blk_below (g := gb349) (o := .cells #[.int .i64 t344, .int .i64 t345, .int .i64 t346, .int .i64 t347] 44 (0, 0)) (zq138) hb); replace HB := Aside0.mk (below_step (zq137) hb); (try clear hb); (try clear hb2); (try clear hk); (try clear hi)) | ((with_reducible refine gate_dst (N := 9) rfl ?_); (try (refine gate_guard (by rfl) ?_; dsimp only)); refine box_event ?hg (N := 9) ?hd (cs := #[.int .i64 0, .int .i64 0, .int .i64 0, .int .i64 0]) (t := 44) ?hr ?_; (case hd => rfl); (case hg => rfl); (case hr => exact zq3); intro gb355 hg w32 hbox hb; have BK355 := Aside0.mk (hbox); have GW355 := Aside0.mk ((zq139 : w.heap.size ≤ gb355)); have GE355 := Aside0.mk ((zq139 : w.heap.size ≤ gb355)); replace HB := Aside0.mk (below_step (zq137) hb); have NB349_355 := Aside0.mk ((zq140 : gb349 ≠ gb355)); have NB355_349 := Aside0.mk ((zq142 : gb355 ≠ gb349)); replace BK349 := Aside0.mk (blk_below (g := gb349) (o := .cells #[.int .i64 t344, .int .i64 t345, .int .i64 t346, .int .i64 t347] 44 (0, 0)) (zq141) hb); clear hb hbox hg; have hnb33 := NB355_349.out; have hnc33 := NB349_355.out; have hcz34_0 : w32.cell? ⟨gb355, 0, none⟩ = some (.int .i64 0) := (blk_cell BK355.out 0).trans rfl; have hcz34_1 : w32.cell? ⟨gb355, 1, none⟩ = some (.int .i64 0) := (blk_cell BK355.out 1).trans rfl; have hcz34_2 : w32.cell? ⟨gb355, 2, none⟩ = some (.int .i64 0) := (blk_cell BK355.out 2).trans rfl; have hcz34_3 : w32.cell? ⟨gb355, 3, none⟩ = some (.int .i64 0) := (blk_cell BK355.out 3).trans rfl; have hfz34_0 := blk_frozen BK355.out 0; have hfz34_1 := blk_frozen BK355.out 1; have hfz34_2 := blk_frozen BK355.out 2; have hfz34_3 := blk_frozen BK355.out 3; have hcz35_0 : w32.cell? ⟨gb349, 0, none⟩ = some (.int .i64 t344) := (blk_cell BK349.out 0).trans rfl; have hcz35_1 : w32.cell? ⟨gb349, 1, none⟩ = some (.int .i64 t345) := (blk_cell BK349.out 1).trans rfl; have hcz35_2 : w32.cell? ⟨gb349, 2, none⟩ = some (.int .i64 t346) := (blk_cell BK349.out 2).trans rfl; have hcz35_3 : w32.cell? ⟨gb349, 3, none⟩ = some (.int .i64 t347) := (blk_cell BK349.out 3).trans rfl; have hfz35_0 := blk_frozen BK349.out 0; have hfz35_1 := blk_frozen BK349.out 1; have hfz35_2 := blk_frozen BK349.out 2; have hfz35_3 := blk_frozen BK349.out 3))
  go_ret
  exact ⟨zq6, zq143⟩
 rw [if_pos c10] at H
 have c10b0 : (t345 == t351) = true := beq_iff_eq.mpr c10
 have c10b1 : (t345 != t351) = false := bne_eq_false_iff_eq.mpr c10
 clear c10
 by_cases c11 : t347 = (a1.size : Int)
 rotate_left
 ·rw [if_neg c11] at H
  have c11b0 : (t347 == (a1.size : Int)) = false := beq_eq_false_iff_ne.mpr c11
  have c11b1 : (t347 != (a1.size : Int)) = true := bne_iff_ne.mpr c11
  obtain rfl := Option.some.inj H
  go_enter Tryz.func24, Tryz.ntmps24
  go_wp2_with (first | ((with_reducible refine gate_callee (f := 22) rfl ?_); refine goesL_ (some 14) rfl rfl Tryz.func22 (by kernel_rfl) rfl #[.slice A0 l0.length c0, .string a1, .int .i64 2] rfl (zq7) ?_; (with_reducible refine (dialtoneref12_Read.calls k _ _ l0 a1 2 t344 t345 t346 t347 t348 _ ?side1 ?side2 A4.out).mono ?_); (case side1 => exact zq135); (case side2 => exact zq29); rintro e w20 ⟨rfl, hb⟩; refine ⟨_, rfl, ?_⟩; replace HB := Aside0.mk (below_step (zq5) hb); (try clear hb); (try clear hb2); (try clear hk); (try clear hi)) | ((with_reducible refine gate_dst (N := 7) rfl ?_); (try (refine gate_guard (by rfl) ?_; dsimp only)); refine box_event ?hg (N := 7) ?hd (cs := #[.int .i64 0, .int .i64 0, .int .i64 0, .int .i64 0]) (t := 44) ?hr ?_; (case hd => rfl); (case hg => rfl); (case hr => exact zq3); intro gb349 hg w21 hbox hb; have BK349 := Aside0.mk (hbox); have GW349 := Aside0.mk ((zq4 : w.heap.size ≤ gb349)); have GE349 := Aside0.mk ((zq4 : w.heap.size ≤ gb349)); replace HB := Aside0.mk (below_step (zq5) hb); clear hb hbox hg; have hcz22_0 : w21.cell? ⟨gb349, 0, none⟩ = some (.int .i64 0) := (blk_cell BK349.out 0).trans rfl; have hcz22_1 : w21.cell? ⟨gb349, 1, none⟩ = some (.int .i64 0) := (blk_cell BK349.out 1).trans rfl; have hcz22_2 : w21.cell? ⟨gb349, 2, none⟩ = some (.int .i64 0) := (blk_cell BK349.out 2).trans rfl; have hcz22_3 : w21.cell? ⟨gb349, 3, none⟩ = some (.int .i64 0) := (blk_cell BK349.out 3).trans rfl; have hfz22_0 := blk_frozen BK349.out 0; have hfz22_1 := blk_frozen BK349.out 1; have hfz22_2 := blk_frozen BK349.out 2; have hfz22_3 := blk_frozen BK349.out 3) | ((with_reducible refine gate_callee (f := 22) rfl ?_); refine goesL_ (some 20) rfl rfl Tryz.func22 (by kernel_rfl) rfl #[.slice A0 l0.length c0, .string a2, .int .i64 2] rfl (zq7) ?_; (with_reducible refine (dialtoneref12_Read.calls k _ _ l0 a2 2 t350 t351 t352 t353 t354 _ ?side1 ?side2 A5.out).mono ?_); (case side1 => exact zq136); (case side2 => exact zq29); rintro e w23 ⟨rfl, hb⟩; refine ⟨_, rfl, ?_⟩; replace BK349 := Aside0.mk (blk_below (g := gb349) (o := .cells #[.int .i64 t344, .int .i64 t345, .int .i64 t346, .int .i64 t347] 44 (0, 0)) (zq138) hb); replace HB := Aside0.mk (below_step (zq137) hb); (try clear hb); (try clear hb2); (try clear hk); (try clear hi)) | ((with_reducible refine gate_dst (N := 9) rfl ?_); (try (refine gate_guard (by rfl) ?_; dsimp only)); refine box_event ?hg (N := 9) ?hd (cs := #[.int .i64 0, .int .i64 0, .int .i64 0, .int .i64 0]) (t := 44) ?hr ?_; (case hd => rfl); (case hg => rfl); (case hr => exact zq3); intro gb355 hg w24 hbox hb; have BK355 := Aside0.mk (hbox); have GW355 := Aside0.mk ((zq139 : w.heap.size ≤ gb355)); have GE355 := Aside0.mk ((zq139 : w.heap.size ≤ gb355)); replace HB := Aside0.mk (below_step (zq137) hb); have NB349_355 := Aside0.mk ((zq140 : gb349 ≠ gb355)); have NB355_349 := Aside0.mk ((zq142 : gb355 ≠ gb349)); replace BK349 := Aside0.mk (blk_below (g := gb349) (o := .cells #[.int .i64 t344, .int .i64 t345, .int .i64 t346, .int .i64 t347] 44 (0, 0)) (zq141) hb); clear hb hbox hg; have hnb25 := NB355_349.out; have hnc25 := NB349_355.out; have hcz26_0 : w24.cell? ⟨gb355, 0, none⟩ = some (.int .i64 0) := (blk_cell BK355.out 0).trans rfl; have hcz26_1 : w24.cell? ⟨gb355, 1, none⟩ = some (.int .i64 0) := (blk_cell BK355.out 1).trans rfl; have hcz26_2 : w24.cell? ⟨gb355, 2, none⟩ = some (.int .i64 0) := (blk_cell BK355.out 2).trans rfl; have hcz26_3 : w24.cell? ⟨gb355, 3, none⟩ = some (.int .i64 0) := (blk_cell BK355.out 3).trans rfl; have hfz26_0 := blk_frozen BK355.out 0; have hfz26_1 := blk_frozen BK355.out 1; have hfz26_2 := blk_frozen BK355.out 2; have hfz26_3 := blk_frozen BK355.out 3; have hcz27_0 : w24.cell? ⟨gb349, 0, none⟩ = some (.int .i64 t344) := (blk_cell BK349.out 0).trans rfl; have hcz27_1 : w24.cell? ⟨gb349, 1, none⟩ = some (.int .i64 t345) := (blk_cell BK349.out 1).trans rfl; have hcz27_2 : w24.cell? ⟨gb349, 2, none⟩ = some (.int .i64 t346) := (blk_cell BK349.out 2).trans rfl; have hcz27_3 : w24.cell? ⟨gb349, 3, none⟩ = some (.int .i64 t347) := (blk_cell BK349.out 3).trans rfl; have hfz27_0 := blk_frozen BK349.out 0; have hfz27_1 := blk_frozen BK349.out 1; have hfz27_2 := blk_frozen BK349.out 2; have hfz27_3 := blk_frozen BK349.out 3))
  go_ret
  exact ⟨zq6, zq143⟩
 rw [if_pos c11] at H
 have c11b0 : (t347 == (a1.size : Int)) = true := beq_iff_eq.mpr c11
 have c11b1 : (t347 != (a1.size : Int)) = false := bne_eq_false_iff_eq.mpr c11
 clear c11
 obtain rfl := Option.some.inj H
 go_enter Tryz.func24, Tryz.ntmps24
 go_wp2_with (first | ((with_reducible refine gate_callee (f := 22) rfl ?_); refine goesL_ (some 14) rfl rfl Tryz.func22 (by kernel_rfl) rfl #[.slice A0 l0.length c0, .string a1, .int .i64 2] rfl (zq7) ?_; (with_reducible refine (dialtoneref12_Read.calls k _ _ l0 a1 2 t344 t345 t346 t347 t348 _ ?side1 ?side2 A4.out).mono ?_); (case side1 => exact zq135); (case side2 => exact zq29); rintro e w12 ⟨rfl, hb⟩; refine ⟨_, rfl, ?_⟩; replace HB := Aside0.mk (below_step (zq5) hb); (try clear hb); (try clear hb2); (try clear hk); (try clear hi)) | ((with_reducible refine gate_dst (N := 7) rfl ?_); (try (refine gate_guard (by rfl) ?_; dsimp only)); refine box_event ?hg (N := 7) ?hd (cs := #[.int .i64 0, .int .i64 0, .int .i64 0, .int .i64 0]) (t := 44) ?hr ?_; (case hd => rfl); (case hg => rfl); (case hr => exact zq3); intro gb349 hg w13 hbox hb; have BK349 := Aside0.mk (hbox); have GW349 := Aside0.mk ((zq4 : w.heap.size ≤ gb349)); have GE349 := Aside0.mk ((zq4 : w.heap.size ≤ gb349)); replace HB := Aside0.mk (below_step (zq5) hb); clear hb hbox hg; have hcz14_0 : w13.cell? ⟨gb349, 0, none⟩ = some (.int .i64 0) := (blk_cell BK349.out 0).trans rfl; have hcz14_1 : w13.cell? ⟨gb349, 1, none⟩ = some (.int .i64 0) := (blk_cell BK349.out 1).trans rfl; have hcz14_2 : w13.cell? ⟨gb349, 2, none⟩ = some (.int .i64 0) := (blk_cell BK349.out 2).trans rfl; have hcz14_3 : w13.cell? ⟨gb349, 3, none⟩ = some (.int .i64 0) := (blk_cell BK349.out 3).trans rfl; have hfz14_0 := blk_frozen BK349.out 0; have hfz14_1 := blk_frozen BK349.out 1; have hfz14_2 := blk_frozen BK349.out 2; have hfz14_3 := blk_frozen BK349.out 3) | ((with_reducible refine gate_callee (f := 22) rfl ?_); refine goesL_ (some 20) rfl rfl Tryz.func22 (by kernel_rfl) rfl #[.slice A0 l0.length c0, .string a2, .int .i64 2] rfl (zq7) ?_; (with_reducible refine (dialtoneref12_Read.calls k _ _ l0 a2 2 t350 t351 t352 t353 t354 _ ?side1 ?side2 A5.out).mono ?_); (case side1 => exact zq136); (case side2 => exact zq29); rintro e w15 ⟨rfl, hb⟩; refine ⟨_, rfl, ?_⟩; replace BK349 := Aside0.mk (blk_below (g := gb349) (o := .cells #[.int .i64 t344, .int .i64 t345, .int .i64 t346, .int .i64 t347] 44 (0, 0)) (zq138) hb); replace HB := Aside0.mk (below_step (zq137) hb); (try clear hb); (try clear hb2); (try clear hk); (try clear hi)) | ((with_reducible refine gate_dst (N := 9) rfl ?_); (try (refine gate_guard (by rfl) ?_; dsimp only)); refine box_event ?hg (N := 9) ?hd (cs := #[.int .i64 0, .int .i64 0, .int .i64 0, .int .i64 0]) (t := 44) ?hr ?_; (case hd => rfl); (case hg => rfl); (case hr => exact zq3); intro gb355 hg w16 hbox hb; have BK355 := Aside0.mk (hbox); have GW355 := Aside0.mk ((zq139 : w.heap.size ≤ gb355)); have GE355 := Aside0.mk ((zq139 : w.heap.size ≤ gb355)); replace HB := Aside0.mk (below_step (zq137) hb); have NB349_355 := Aside0.mk ((zq140 : gb349 ≠ gb355)); have NB355_349 := Aside0.mk ((zq142 : gb355 ≠ gb349)); replace BK349 := Aside0.mk (blk_below (g := gb349) (o := .cells #[.int .i64 t344, .int .i64 t345, .int .i64 t346, .int .i64 t347] 44 (0, 0)) (zq141) hb); clear hb hbox hg; have hnb17 := NB355_349.out; have hnc17 := NB349_355.out; have hcz18_0 : w16.cell? ⟨gb355, 0, none⟩ = some (.int .i64 0) := (blk_cell BK355.out 0).trans rfl; have hcz18_1 : w16.cell? ⟨gb355, 1, none⟩ = some (.int .i64 0) := (blk_cell BK355.out 1).trans rfl; have hcz18_2 : w16.cell? ⟨gb355, 2, none⟩ = some (.int .i64 0) := (blk_cell BK355.out 2).trans rfl; have hcz18_3 : w16.cell? ⟨gb355, 3, none⟩ = some (.int .i64 0) := (blk_cell BK355.out 3).trans rfl; have hfz18_0 := blk_frozen BK355.out 0; have hfz18_1 := blk_frozen BK355.out 1; have hfz18_2 := blk_frozen BK355.out 2; have hfz18_3 := blk_frozen BK355.out 3; have hcz19_0 : w16.cell? ⟨gb349, 0, none⟩ = some (.int .i64 t344) := (blk_cell BK349.out 0).trans rfl; have hcz19_1 : w16.cell? ⟨gb349, 1, none⟩ = some (.int .i64 t345) := (blk_cell BK349.out 1).trans rfl; have hcz19_2 : w16.cell? ⟨gb349, 2, none⟩ = some (.int .i64 t346) := (blk_cell BK349.out 2).trans rfl; have hcz19_3 : w16.cell? ⟨gb349, 3, none⟩ = some (.int .i64 t347) := (blk_cell BK349.out 3).trans rfl; have hfz19_0 := blk_frozen BK349.out 0; have hfz19_1 := blk_frozen BK349.out 1; have hfz19_2 := blk_frozen BK349.out 2; have hfz19_3 := blk_frozen BK349.out 3))
 go_ret
 exact ⟨zq6, zq143⟩
end Go.Proofs.YtlmfoblgheepoaaGreatDoor.Pl
end
section
open Go.Proofs.YtlmfoblgheepoaaGreatDoor.Z
namespace Go.Proofs.YtlmfoblgheepoaaGreatDoor.Pl
open Go.RowKit Go.Proofs.YtlmfoblgheepoaaGreatDoorW.PrintWords Go.Proofs.YtlmfoblgheepoaaGreatDoorW.PrintLast Go.Proofs.YtlmfoblgheepoaaGreatDoorW.PrintMore
attribute [local go_sem] max2_int min2_int max_two min_two max_three min_three max_four min_four
set_option linter.unusedVariables false
set_option linter.unusedSimpArgs false
attribute [local go_sem high] eqA40 eqA44
mutual
def dialtonelaw12_PlanMatchesReference_round.l0 : Nat → List Int → Int → Int → Int → List (S29) → List ByteArray → List Int → Int → Int → Option (Unit)
 | 0, _, _, _, _, _, _, _, _, _ => none
 | k + 1, x3, x7, x8, x24, x26, x27, x119, x120, x121 => if x121 < x120 then (if 0 ≤ x121 then (if x121 < (x119.length : Int) then ((some (([x7, x24] : List Int) : List Int)).bind fun y365 => (dialtonelaw12_PlanMatchesReference_round.l1 k x3 x7 x8 x24 x26 x27 (rd x119 x121) x119 x120 x121 y365 (y365.length : Int) 0)) else (none)) else (none)) else ((plan_Valid.f k x26).bind fun t411 => ((dialtoneref12_Valid.f k x26).bind fun t412 => (if (t411 != t412) = true then (none) else (some ()))))
def dialtonelaw12_PlanMatchesReference_round.l1 : Nat → List Int → Int → Int → Int → List (S29) → List ByteArray → Int → List Int → Int → Int → List Int → Int → Int → Option (Unit)
 | 0, _, _, _, _, _, _, _, _, _, _, _, _, _ => none
 | k + 1, x3, x7, x8, x24, x26, x27, x29, x119, x120, x121, x127, x128, x129 => if x129 < x128 then (if 0 ≤ x129 then (if x129 < (x127.length : Int) then ((plan_Write.f k x26 (rd x127 x129) x29).bind fun bt369 => ((dialtoneref12_Write.f k x26 (rd x127 x129) x29).bind fun bt371 => (if bt369.1.toList = bt371.1.toList then (if bt369.2 = bt371.2 then (if 0 ≤ (mn (x3.length : Int) 8) then (if (mn (x3.length : Int) 8) ≤ (x3.length : Int) then ((dialtonelaw12_text.f k (x3.take ((mn (x3.length : Int) 8) : Int).toNat)).bind fun t374 => (if bt371.1.size + t374.size ≤ 9223372036854775807 then (if 0 ≤ (wrap64 ((bt371.1.size : Int) / 2)) then (if (wrap64 ((bt371.1.size : Int) / 2)) ≤ (bt371.1.size : Int) then ((some (([bt371.1 ++ t374, bt371.1.extract 0 ((wrap64 ((bt371.1.size : Int) / 2)) : Int).toNat] : List ByteArray) : List ByteArray)).bind fun y375 => (if x27.length + y375.length < 8796093022208 then (dialtonelaw12_PlanMatchesReference_round.l1 k x3 x7 x8 x24 x26 (x27 ++ y375) x29 x119 x120 x121 x127 x128 (wrap64 (x129 + 1))) else (none))) else (none)) else (none)) else (none))) else (none)) else (none)) else (none)) else (none)))) else (none)) else (none)) else ((dialtonelaw12_pick.f x8 9).bind fun t381 => ((some (([x8, t381] : List Int) : List Int)).bind fun y382 => (dialtonelaw12_PlanMatchesReference_round.l2 k x3 x7 x8 x24 x26 x27 x29 x119 x120 x121 y382 (y382.length : Int) 0)))
def dialtonelaw12_PlanMatchesReference_round.l2 : Nat → List Int → Int → Int → Int → List (S29) → List ByteArray → Int → List Int → Int → Int → List Int → Int → Int → Option (Unit)
 | 0, _, _, _, _, _, _, _, _, _, _, _, _, _ => none
 | k + 1, x3, x7, x8, x24, x26, x27, x29, x119, x120, x121, x175, x176, x177 => if x177 < x176 then (if 0 ≤ x177 then (if x177 < (x175.length : Int) then ((plan_Range.f k x26 (rd x175 x177) x29).bind fun bt386 => ((dialtoneref12_Range.f k x26 (rd x175 x177) x29).bind fun bt390 => (if (!(bt386.1 == bt390.1) || (!(bt386.2.1 == bt390.2.1))) = true then (none) else (if bt386.2.2 = bt390.2.2 then (dialtonelaw12_PlanMatchesReference_round.l2 k x3 x7 x8 x24 x26 x27 x29 x119 x120 x121 x175 x176 (wrap64 (x177 + 1))) else (none))))) else (none)) else (none)) else (dialtonelaw12_PlanMatchesReference_round.l3 k x3 x7 x8 x24 x26 x27 x29 x119 x120 x121 x27 (x27.length : Int) 0)
def dialtonelaw12_PlanMatchesReference_round.l3 : Nat → List Int → Int → Int → Int → List (S29) → List ByteArray → Int → List Int → Int → Int → List ByteArray → Int → Int → Option (Unit)
 | 0, _, _, _, _, _, _, _, _, _, _, _, _, _ => none
 | k + 1, x3, x7, x8, x24, x26, x27, x29, x119, x120, x121, x204, x205, x206 => if x206 < x205 then (if 0 ≤ x206 then (if x206 < (x204.length : Int) then ((plan_Read.f k x26 (rdOf ByteArray.empty x204 x206) x29).bind fun bt395 => ((dialtoneref12_Read.f k x26 (rdOf ByteArray.empty x204 x206) x29).bind fun bt401 => (if (!(bt395.1 == bt401.1) || (!(bt395.2.1 == bt401.2.1) || (!(bt395.2.2.1 == bt401.2.2.1) || (!(bt395.2.2.2.1 == bt401.2.2.2.1))))) = true then (none) else (if bt395.2.2.2.2 = bt401.2.2.2.2 then (if 0 < (x27.length : Int) then ((plan_Same.f k x26 (rdOf ByteArray.empty x204 x206) (rdOf ByteArray.empty x27 0)).bind fun t408 => ((dialtoneref12_Same.f k x26 (rdOf ByteArray.empty x204 x206) (rdOf ByteArray.empty x27 0)).bind fun t410 => (if (t408 != t410) = true then (none) else (dialtonelaw12_PlanMatchesReference_round.l3 k x3 x7 x8 x24 x26 x27 x29 x119 x120 x121 x204 x205 (wrap64 (x206 + 1)))))) else (none)) else (none))))) else (none)) else (none)) else (dialtonelaw12_PlanMatchesReference_round.l0 k x3 x7 x8 x24 x26 x27 x119 x120 (wrap64 (x121 + 1)))
end
def dialtonelaw12_PlanMatchesReference_round.f (k : Nat) (l0 : List (S29)) (l1 : List Int) (a2 : ByteArray) (a3 : Int) (a4 : Int) (a5 : Int) (a6 : Int) : Option (Unit) := (dialtonelaw12_text.f k l1).bind fun t356 => (if 0 ≤ (mn (a2.size : Int) 17) then (if (mn (a2.size : Int) 17) ≤ (a2.size : Int) then ((dialtonelaw12_pick.f a3 3).bind fun t360 => ((some (([a3, wrap64 (1 + t360)] : List Int) : List Int)).bind fun y361 => (dialtonelaw12_PlanMatchesReference_round.l0 k l1 a4 a6 a5 l0 (([t356, a2.extract 0 ((mn (a2.size : Int) 17) : Int).toNat, (⟨#[]⟩ : ByteArray)] : List ByteArray)) y361 (y361.length : Int) 0))) else (none)) else (none))
noncomputable def dialtonelaw12_PlanMatchesReference_round.code : Code := codeAt [1, 1, 1, 1, 1, 1, 1, 0, 1, 0, 0, 1, 1, 0, 0, 1] ((Tryz.f3.body).getD .skip)
def dialtonelaw12_PlanMatchesReference_round.T15 : Bool × List (List Nat × List Nat) := (true, [([], []), ([0], [0]), ([], []), ([], []), ([3], [3]), ([4], [4]), ([2, 5], [2, 5]), ([1, 6], [1, 6]), ([7, 1, 0, 1, 2, 3, 4, 5, 6, 7], [7])])
def dialtonelaw12_PlanMatchesReference_round.B15 : List Nat := [0, 1, 0, 0, 8, 24, 60, 127, 255]
theorem dialtonelaw12_PlanMatchesReference_round.tab15 : rtab .any (opsOf Tryz.f3 15) = dialtonelaw12_PlanMatchesReference_round.T15 := by kernel_rfl
theorem dialtonelaw12_PlanMatchesReference_round.bits15 : waitsOk dialtonelaw12_PlanMatchesReference_round.T15.2 dialtonelaw12_PlanMatchesReference_round.B15 = true := by kernel_rfl
def dialtonelaw12_PlanMatchesReference_round.T26 : Bool × List (List Nat × List Nat) := (true, [([], []), ([], []), ([], []), ([], []), ([3], [3]), ([4], [4]), ([2, 5], [2, 5]), ([6], [6]), ([1, 7], [1, 7]), ([], []), ([], []), ([10], [10]), ([11], [11]), ([9, 12], [9, 12]), ([8, 13], [8, 13]), ([0, 14, 7], [0, 14]), ([15, 15, 0, 1, 2, 3, 4, 5, 6, 7, 8, 9, 10, 11, 12, 13, 14, 15], [0, 15])])
def dialtonelaw12_PlanMatchesReference_round.B26 : List Nat := [0, 0, 0, 0, 8, 24, 60, 124, 254, 0, 0, 1024, 3072, 7680, 16382, 32767, 65535]
theorem dialtonelaw12_PlanMatchesReference_round.tab26 : rtab .any (opsOf Tryz.f3 26) = dialtonelaw12_PlanMatchesReference_round.T26 := by kernel_rfl
theorem dialtonelaw12_PlanMatchesReference_round.bits26 : waitsOk dialtonelaw12_PlanMatchesReference_round.T26.2 dialtonelaw12_PlanMatchesReference_round.B26 = true := by kernel_rfl
def dialtonelaw12_PlanMatchesReference_round.T41 : Bool × List (List Nat × List Nat) := (true, [([], []), ([], []), ([0, 1], [0, 1]), ([2], [2]), ([3], [3]), ([3], [3]), ([4, 5, 3], [3, 4, 5]), ([3, 6], [3, 6]), ([7, 3], [7]), ([8], [8]), ([8], [8]), ([8], [8]), ([11, 8], [8, 11]), ([12, 8], [8, 12]), ([9, 10, 13, 8, 8], [8, 9, 10, 13]), ([8], [8]), ([8], [8]), ([8], [8]), ([17, 8], [8, 17]), ([18, 8], [8, 18]), ([15, 16, 19, 14, 8], [8, 15, 16, 19]), ([14, 20, 8], [8, 14, 20]), ([8, 21], [8, 21])])
def dialtonelaw12_PlanMatchesReference_round.B41 : List Nat := [0, 0, 3, 7, 15, 15, 63, 127, 255, 511, 511, 511, 2559, 6655, 16383, 511, 511, 511, 131583, 393727, 1048575, 2097151, 4194303]
theorem dialtonelaw12_PlanMatchesReference_round.tab41 : rtab .any (opsOf Tryz.f3 41) = dialtonelaw12_PlanMatchesReference_round.T41 := by kernel_rfl
theorem dialtonelaw12_PlanMatchesReference_round.bits41 : waitsOk dialtonelaw12_PlanMatchesReference_round.T41.2 dialtonelaw12_PlanMatchesReference_round.B41 = true := by kernel_rfl
set_option maxHeartbeats 8000000 in
set_option maxRecDepth 100000 in
theorem dialtonelaw12_PlanMatchesReference_round.calls (k : Nat) {u0 u1 u2 u6 u9 u10 u11 u12 u13 u14 u15 u16 u17 u18 u19 u20 u21 u22 u23 u25 u27 u28 u29 u30 u31 u32 u33 u34 u35 u36 u37 u38 u39 u40 u41 u42 u43 u44 u45 u46 u47 u48 u49 u50 u51 u52 u53 u54 u55 u56 u57 u58 u59 u60 u61 u62 u63 u64 u65 u66 u67 u68 u69 u70 u71 u72 u73 u74 u75 u76 u77 u78 u79 u80 u81 u82 u83 u84 u85 u86 u87 u88 u89 u90 u91 u92 u93 u94 u95 u96 u97 u98 u99 u100 u101 u102 u103 u104 u105 u106 u107 u108 u109 u110 u111 u112 u113 u114 u115 u116 u117 u118 u119 u120 u121 u122 u123 u124 u125 u126 u127 u128 u129 u130 u131 u132 u133 u134 u135 u136 u137 u138 u139 u140 u141 u142 u143 u144 u145 u146 u147 u148 u149 u150 u151 u152 u153 u154 u155 u156 u157 u158 u159 u160 u161 u162 u163 u164 u165 u166 u167 u168 u169 u170 u171 u172 u173 u174 u175 u176 u177 u178 u179 u180 u181 u182 u183 u184 u185 u186 u187 u188 u189 u190 u191 u192 u193 u194 u195 u196 u197 u198 u199 u200 u201 u202 u203 u204 u205 u206 u207 u208 u209 u210 u211 u212 u213 u214 u215 u216 u217 u218 u219 u220 u221 u222 u223 u224 u225 u226 u227 u228 u229 u230 u231 u232 u233 u234 u235 u236 u237 u238 u239 u240 u241 u242 u243 u244 u245 u246 u247 u248 u249 u250 u251 u252 u253 u254 u255 : Value} (A0 : Option Addr) (c0 : Nat) (l0 : List (S29)) (A1 : Option Addr) (c1 : Nat) (l1 : List Int) (a2 : ByteArray) (a3 : Int) (a4 : Int) (a5 : Int) (a6 : Int) (w : World) (hr0 : Kd.C k29 w A0 l0.length l0) (hc0 : l0.length ≤ c0) (hr1 : Kd.C (Kd.int .i64) w A1 l1.length l1) (hc1 : l1.length ≤ c1) (hG : Glb w) (h : dialtonelaw12_PlanMatchesReference_round.f k l0 l1 a2 a3 a4 a5 a6 = some ()) :
 Code.wp Tryz.prog dialtonelaw12_PlanMatchesReference_round.code (pieceQ (fun a_ => ∀ C_ : Act → Prop, (∀ x18_ x27_ x29_ x31_ x32_ x33_ x34_ x35_ x37_ x38_ x39_ x40_ x41_ x43_ x44_ x45_ x46_ x47_ x107_ x108_ x109_ x110_ x111_ x112_ x113_ x114_ x115_ x116_ x117_ x118_ x119_ x120_ x121_ x122_ x123_ x124_ x125_ x126_ x127_ x128_ x129_ x130_ x131_ x132_ x133_ x134_ x135_ x136_ x137_ x138_ x139_ x140_ x141_ x142_ x143_ x144_ x145_ x146_ x147_ x148_ x149_ x150_ x151_ x152_ x153_ x154_ x155_ x156_ x157_ x158_ x159_ x160_ x161_ x162_ x163_ x164_ x165_ x166_ x167_ x168_ x169_ x170_ x171_ x172_ x173_ x174_ x175_ x176_ x177_ x178_ x179_ x180_ x181_ x182_ x183_ x184_ x185_ x186_ x187_ x188_ x189_ x190_ x191_ x192_ x193_ x194_ x195_ x196_ x197_ x198_ x199_ x200_ x201_ x202_ x203_ x204_ x205_ x206_ x207_ x208_ x209_ x210_ x211_ x212_ x213_ x214_ x215_ x216_ x217_ x218_ x219_ x220_ x221_ x222_ x223_ x224_ x225_ x226_ x227_ x228_ x229_ x230_ x231_ x232_ x233_ x234_ x235_ x236_ x237_ x238_ x239_ x240_ x241_ x242_ x243_ x244_ x245_ x246_ x247_ x248_ x249_ x250_ x251_ x252_ x253_ : Value, C_ ⟨#[u0, u1, u2, .slice A1 l1.length c1, .string a2, .int .i64 a3, u6, .int .i64 a4, .int .i64 a6, u9, u10, u11, u12, u13, u14, u15, u16, u17, x18_, u19, u20, u21, u22, u23, .int .i64 a5, u25, .slice A0 l0.length c0, x27_, u28, x29_, u30, x31_, x32_, x33_, x34_, x35_, u36, x37_, x38_, x39_, x40_, x41_, u42, x43_, x44_, x45_, x46_, x47_, u48, u49, u50, u51, u52, u53, u54, u55, u56, u57, u58, u59, u60, u61, u62, u63, u64, u65, u66, u67, u68, u69, u70, u71, u72, u73, u74, u75, u76, u77, u78, u79, u80, u81, u82, u83, u84, u85, u86, u87, u88, u89, u90, u91, u92, u93, u94, u95, u96, u97, u98, u99, u100, u101, u102, u103, u104, u105, u106, x107_, x108_, x109_, x110_, x111_, x112_, x113_, x114_, x115_, x116_, x117_, x118_, x119_, x120_, x121_, x122_, x123_, x124_, x125_, x126_, x127_, x128_, x129_, x130_, x131_, x132_, x133_, x134_, x135_, x136_, x137_, x138_, x139_, x140_, x141_, x142_, x143_, x144_, x145_, x146_, x147_, x148_, x149_, x150_, x151_, x152_, x153_, x154_, x155_, x156_, x157_, x158_, x159_, x160_, x161_, x162_, x163_, x164_, x165_, x166_, x167_, x168_, x169_, x170_, x171_, x172_, x173_, x174_, x175_, x176_, x177_, x178_, x179_, x180_, x181_, x182_, x183_, x184_, x185_, x186_, x187_, x188_, x189_, x190_, x191_, x192_, x193_, x194_, x195_, x196_, x197_, x198_, x199_, x200_, x201_, x202_, x203_, x204_, x205_, x206_, x207_, x208_, x209_, x210_, x211_, x212_, x213_, x214_, x215_, x216_, x217_, x218_, x219_, x220_, x221_, x222_, x223_, x224_, x225_, x226_, x227_, x228_, x229_, x230_, x231_, x232_, x233_, x234_, x235_, x236_, x237_, x238_, x239_, x240_, x241_, x242_, x243_, x244_, x245_, x246_, x247_, x248_, x249_, x250_, x251_, x252_, x253_, u254, u255], []⟩) → C_ a_) w) ⟨#[u0, u1, u2, .slice A1 l1.length c1, .string a2, .int .i64 a3, u6, .int .i64 a4, .int .i64 a6, u9, u10, u11, u12, u13, u14, u15, u16, u17, u18, u19, u20, u21, u22, u23, .int .i64 a5, u25, .slice A0 l0.length c0, u27, u28, u29, u30, u31, u32, u33, u34, u35, u36, u37, u38, u39, u40, u41, u42, u43, u44, u45, u46, u47, u48, u49, u50, u51, u52, u53, u54, u55, u56, u57, u58, u59, u60, u61, u62, u63, u64, u65, u66, u67, u68, u69, u70, u71, u72, u73, u74, u75, u76, u77, u78, u79, u80, u81, u82, u83, u84, u85, u86, u87, u88, u89, u90, u91, u92, u93, u94, u95, u96, u97, u98, u99, u100, u101, u102, u103, u104, u105, u106, u107, u108, u109, u110, u111, u112, u113, u114, u115, u116, u117, u118, u119, u120, u121, u122, u123, u124, u125, u126, u127, u128, u129, u130, u131, u132, u133, u134, u135, u136, u137, u138, u139, u140, u141, u142, u143, u144, u145, u146, u147, u148, u149, u150, u151, u152, u153, u154, u155, u156, u157, u158, u159, u160, u161, u162, u163, u164, u165, u166, u167, u168, u169, u170, u171, u172, u173, u174, u175, u176, u177, u178, u179, u180, u181, u182, u183, u184, u185, u186, u187, u188, u189, u190, u191, u192, u193, u194, u195, u196, u197, u198, u199, u200, u201, u202, u203, u204, u205, u206, u207, u208, u209, u210, u211, u212, u213, u214, u215, u216, u217, u218, u219, u220, u221, u222, u223, u224, u225, u226, u227, u228, u229, u230, u231, u232, u233, u234, u235, u236, u237, u238, u239, u240, u241, u242, u243, u244, u245, u246, u247, u248, u249, u250, u251, u252, u253, u254, u255], []⟩ w := by
 have HGLB := Aside0.mk hG
 clear hG
 have hu40 := Tryz.underlying40
 have hu44 := Tryz.underlying44
 have HR0 := Aside0.mk hr0
 have HC0 := Aside0.mk hc0
 clear hr0 hc0
 have HR1 := Aside0.mk hr1
 have HC1 := Aside0.mk hc1
 clear hr1 hc1
 have HB := Aside0.mk (Below.refl w.heap.size w)
 have H : ((dialtonelaw12_text.f k l1).bind fun t356 => (if 0 ≤ (mn (a2.size : Int) 17) then (if (mn (a2.size : Int) 17) ≤ (a2.size : Int) then ((dialtonelaw12_pick.f a3 3).bind fun t360 => ((some (([a3, wrap64 (1 + t360)] : List Int) : List Int)).bind fun y361 => (dialtonelaw12_PlanMatchesReference_round.l0 k l1 a4 a6 a5 l0 (([t356, a2.extract 0 ((mn (a2.size : Int) 17) : Int).toNat, (⟨#[]⟩ : ByteArray)] : List ByteArray)) y361 (y361.length : Int) 0))) else (none)) else (none))) = some () := h
 clear h
 replace H := Option.bind_eq_some_iff.mp H
 obtain ⟨t356, A80, H⟩ := H
 replace H : (if 0 ≤ (mn (a2.size : Int) 17) then (if (mn (a2.size : Int) 17) ≤ (a2.size : Int) then ((dialtonelaw12_pick.f a3 3).bind fun t360 => ((some (([a3, wrap64 (1 + t360)] : List Int) : List Int)).bind fun y361 => (dialtonelaw12_PlanMatchesReference_round.l0 k l1 a4 a6 a5 l0 (([t356, a2.extract 0 ((mn (a2.size : Int) 17) : Int).toNat, (⟨#[]⟩ : ByteArray)] : List ByteArray)) y361 (y361.length : Int) 0))) else (none)) else (none)) = some () := H
 have A8 := Aside0.mk A80
 clear A80
 obtain ⟨ji9, hji9⟩ : ∃ j_ : Int, (mn (a2.size : Int) 17) = j_ := ⟨_, rfl⟩
 replace H : (if 0 ≤ (ji9) then (if (ji9) ≤ (a2.size : Int) then ((dialtonelaw12_pick.f a3 3).bind fun t360 => ((some (([a3, wrap64 (1 + t360)] : List Int) : List Int)).bind fun y361 => (dialtonelaw12_PlanMatchesReference_round.l0 k l1 a4 a6 a5 l0 (([t356, a2.extract 0 ((ji9) : Int).toNat, (⟨#[]⟩ : ByteArray)] : List ByteArray)) y361 (y361.length : Int) 0))) else (none)) else (none)) = some () := by first | (rw [hji9] at H; exact H) | (simp only [hji9] at H ⊢; exact H)
 (try rw [hji9] at A8)
 (try (have hji9h : ji9 ≤ 17 := by (rw [← hji9]; unfold mn; (repeat' split) <;> omega)))
 (try (have hji9g : ji9 ≤ 64 := by omega))
 (try (have hji9l : 0 ≤ ji9 := by (rw [← hji9]; unfold mn; (repeat' split) <;> omega)))
 (try (have hji9m : 0 ≤ ji9 := by omega))
 have hji9_ : (if 17 < (a2.size : Int) then 17 else (a2.size : Int)) = ji9 := hji9
 by_cases c10 : 0 ≤ (ji9)
 rotate_left
 ·rw [if_neg c10] at H
  exact absurd H (by simp)
 rw [if_pos c10] at H
 have c10b0 := eq_true c10
 have c10b1 : decide (0 ≤ (ji9)) = true := decide_eq_true c10
 clear c10
 by_cases c11 : (ji9) ≤ (a2.size : Int)
 rotate_left
 ·rw [if_neg c11] at H
  exact absurd H (by simp)
 rw [if_pos c11] at H
 have c11b0 := eq_true c11
 have c11b1 : decide ((ji9) ≤ (a2.size : Int)) = true := decide_eq_true c11
 clear c11
 obtain ⟨y357, hy357⟩ : ∃ y_ : List ByteArray, y_ = (([t356, a2.extract 0 ((ji9) : Int).toNat, (⟨#[]⟩ : ByteArray)] : List ByteArray)) := ⟨_, rfl⟩
 replace H : ((dialtonelaw12_pick.f a3 3).bind fun t360 => ((some (([a3, wrap64 (1 + t360)] : List Int) : List Int)).bind fun y361 => (dialtonelaw12_PlanMatchesReference_round.l0 k l1 a4 a6 a5 l0 y357 y361 (y361.length : Int) 0))) = some () := by first | (rw [hy357]; with_reducible exact H) | (have H2_ := (Option.bind_some _ _).symm.trans H; rw [hy357]; with_reducible exact H2_) | (have H2_ := (Option.bind_some _ _).symm.trans H; with_reducible exact H2_) | with_reducible exact H | (rw [hy357]; exact H) | exact H
 have Ny357 := Aside0.mk hy357
 clear hy357
 replace H := Option.bind_eq_some_iff.mp H
 obtain ⟨t360, A120, H⟩ := H
 replace H : ((some (([a3, wrap64 (1 + t360)] : List Int) : List Int)).bind fun y361 => (dialtonelaw12_PlanMatchesReference_round.l0 k l1 a4 a6 a5 l0 y357 y361 (y361.length : Int) 0)) = some () := H
 have A12 := Aside0.mk A120
 clear A120
 obtain ⟨y361, hy361⟩ : ∃ y_ : List Int, y_ = (([a3, wrap64 (1 + t360)] : List Int)) := ⟨_, rfl⟩
 replace H : (dialtonelaw12_PlanMatchesReference_round.l0 k l1 a4 a6 a5 l0 y357 y361 (y361.length : Int) 0) = some () := by first | (rw [hy361]; with_reducible exact H) | (have H2_ := (Option.bind_some _ _).symm.trans H; rw [hy361]; with_reducible exact H2_) | (have H2_ := (Option.bind_some _ _).symm.trans H; with_reducible exact H2_) | with_reducible exact H | (rw [hy361]; exact H) | exact H
 have Ny361 := Aside0.mk hy361
 clear hy361
 have H' := Aside0.mk H
 clear H
 unfold dialtonelaw12_PlanMatchesReference_round.code
 conv => arg 2; whnf
 try go_wp2
 replace HB := Aside0.mk (below_drew1 HB.out)
 refine start_ (n := 9) (S := fun w' => True) (ds := []) (bm 9 0) (by kernel_rfl) rfl rfl trivial (fun hHeld => ?_); refine with_tabW dialtonelaw12_PlanMatchesReference_round.tab15 dialtonelaw12_PlanMatchesReference_round.bits15 (fun HT_ HW_ => ?_)
 generalize w.drew = w13 at HB hHeld ⊢
 refine pz 0 (some 107) (bm 9 1) HT_ ?_
 refine pz 2 (some 109) (bm 9 5) HT_ ?_
 refine pz 3 (some 110) (bm 9 13) HT_ ?_
 refine pz 4 (some 111) (bm 9 29) HT_ ?_
 refine pz 5 (some 112) (bm 9 61) HT_ ?_
 refine pz 6 (some 113) (bm 9 125) HT_ ?_
 refine one_ (i := 1) (N := some 108) (bm 9 127) rfl rfl (one_of HT_.out (by kernel_rfl)) (by decide) (fun K hK => ?_)
 refine goes_ Tryz.func15 (by kernel_rfl) rfl #[.slice A1 l1.length c1] (by rfl) rfl rfl (zq7) ?_
 with_reducible refine (dialtonelaw12_text.calls k _ _ l1 t356 _ ?side1 ?side2 A8.out).mono ?_
 (case side1 => repeat (first | exact (Kd.C_below HR1.out HB.out) | (with_reducible refine Kd.C_alloc ?_ _) | (with_reducible refine Kd.C_drewN ?_ _) | (with_reducible refine Kd.C_drew ?_)))
 (case side2 => exact HC1.out)
 rintro e w14 ⟨rfl, hb⟩
 refine ⟨_, rfl, ?_⟩
 replace HB := Aside0.mk (below_step (zq5) hb)
 (try clear hb)
 (try clear hb2)
 (try clear hk)
 (try clear hi)
 refine hK.out _ _ trivial (fun hHeld => ?_)
 clear hK K
 refine nz (some 108) ?_
 refine one_ (i := 7) (N := some 114) (bm 9 255) rfl rfl (one_of HT_.out (by kernel_rfl)) (by decide) (fun K hK => ?_)
 refine Kd.R_lit_step Kd.string _ 9 ?hg (N := 114) ?hd (xs := ([t356, a2.extract 0 ((ji9) : Int).toNat, (⟨#[]⟩ : ByteArray)] : List ByteArray)) (inner := [.string t356, .string (a2.extract 0 ((ji9) : Int).toNat), .string (⟨#[]⟩ : ByteArray)]) (ok := fun _ => True) (okp := fun _ => True) ?hr ?hp (fun _ hk => hk) trivial (Below.refl _ _) (Nat.le_refl _) (by simp) ?_; (case hd => rfl); (case hg => rfl); (case hr => exact zq3); (case hp => exact (Reps.one (show Kd.M Kd.string _ _ _ t356 [.string t356] from rfl) (Reps.one (show Kd.M Kd.string _ _ _ (a2.extract 0 ((ji9) : Int).toNat) [.string (a2.extract 0 ((ji9) : Int).toNat)] from rfl) (Reps.one (show Kd.M Kd.string _ _ _ (⟨#[]⟩ : ByteArray) [.string (⟨#[]⟩ : ByteArray)] from rfl) (Reps.none _ _)))))
 intro v358 w15 ho16 hb hg_ hnew_
 clear hg_ hnew_
 (first | rw [← Ny357.out] at ho16 | (simp only [Int.reduceToNat] at ho16; rw [← Ny357.out] at ho16))
 have HO359 := Aside0.mk (Kd.R_lower ho16 (below_size (zq5)))
 replace HB := Aside0.mk (below_step (zq5) hb)
 clear hb ho16
 refine hK.out _ _ trivial (fun hHeld => ?_)
 clear hK K
 refine nz (some 114) ?_
 refine pz 8 (some 27) (bm 9 511) HT_ ?_
 refine done_ (done_of HT_.out (by kernel_rfl)) ?_
 try go_wp2_with (first | ((with_reducible refine gate_callee (f := 16) rfl ?_); refine goesL_ (some 117) rfl rfl Tryz.func16 (by kernel_rfl) rfl #[.int .i64 a3, .int .i64 3] rfl (zq7) ?_; (with_reducible refine (dialtonelaw12_pick.calls a3 3 t360 _ A12.out).mono ?_); rintro e w' ⟨rfl, ⟨nd, rfl⟩⟩; refine ⟨_, rfl, ?_⟩) | ((with_reducible refine gate_dst (N := 119) rfl ?_); refine Kd.R_lit (Kd.int .i64) _ 3 ?hg (N := 119) ?hd (xs := ([a3, wrap64 (1 + t360)] : List Int)) (inner := [.int .i64 a3, .int .i64 (wrap64 (1 + t360))]) (ok := fun _ => True) (okp := fun _ => True) ?hr ?hp (fun _ hk => hk) trivial (Below.refl _ _) (Nat.le_refl _) (by simp) ?_; (case hd => rfl); (case hg => rfl); (case hr => exact zq3); (case hp => exact (Reps.one (show Kd.M (Kd.int .i64) _ _ _ a3 [.int .i64 a3] from rfl) (Reps.one (show Kd.M (Kd.int .i64) _ _ _ (wrap64 (1 + t360)) [.int .i64 (wrap64 (1 + t360))] from rfl) (Reps.none _ _)))); intro v362 w17 ho18 hb hg_ hnew_; clear hg_ hnew_; (first | rw [← Ny361.out] at ho18 | (simp only [Int.reduceToNat] at ho18; rw [← Ny361.out] at ho18)); replace HO359 := Aside0.mk (Kd.R_below (zq144) hb); have HO363 := Aside0.mk (Kd.R_lower ho18 (below_size (zq5))); replace HB := Aside0.mk (below_step (zq5) hb); clear hb ho18; obtain ⟨Ao19, co19, eo19⟩ := Kd.R_slice HO363.out; subst eo19))
 go_loopg [27, 121] k (fun kq v27 v121 w' => ∃ (x27_1 : List ByteArray) (x121_1 : Int), v121 = .int .i64 x121_1 ∧ Aside0 (dialtonelaw12_PlanMatchesReference_round.l0 kq l1 a4 a6 a5 l0 x27_1 y361 (y361.length : Int) x121_1 = some ()) ∧ Aside0 (kq ≤ k) ∧ Aside0 (Kd.R Kd.string 9 w' w.heap.size (fun _ => True) v27 x27_1) ∧ Aside0 (Kd.R (Kd.int .i64) 3 w' w.heap.size (fun _ => True) (.slice Ao19 y361.length co19) y361) ∧ Aside0 (Below w.heap.size w w'))
 case atStart => exact ⟨(y357), (0), (zq1), H', ⟨Nat.le_refl _⟩, ⟨zq144⟩, ⟨by (with_reducible repeat (first | apply Kd.R_alloc | apply Kd.R_drewN | apply Kd.R_drew)); exact HO363.out⟩, ⟨zq5⟩⟩
 case round =>
  clear H'
  try clear c1
  try clear p2
  try clear p6
  try clear c10
  try clear c10b0
  try clear c10b1
  try clear c11
  try clear c11b0
  try clear c11b1
  try clear c15
  try clear c16
  obtain ⟨x27_1, x121_1, rfl, HA, HK1, HO_27, HO_119, HB⟩ := hrel
  cases gk with
  | zero => exact absurd HA.out (by simp [dialtonelaw12_PlanMatchesReference_round.l0])
  | succ k1 =>
   have H := HA.out
   clear HA
   simp only [dialtonelaw12_PlanMatchesReference_round.l0] at H
   by_cases c20 : x121_1 < (y361.length : Int)
   rotate_left
   ·rw [if_neg c20] at H
    have c20b0 : decide (x121_1 < (y361.length : Int)) = false := decide_eq_false c20
    clear c20
    replace H := Option.bind_eq_some_iff.mp H
    obtain ⟨t411, A930, H⟩ := H
    replace H : ((dialtoneref12_Valid.f k1 l0).bind fun t412 => (if (t411 != t412) = true then (none) else (some ()))) = some () := H
    have A93 := Aside0.mk A930
    clear A930
    replace H := Option.bind_eq_some_iff.mp H
    obtain ⟨t412, A940, H⟩ := H
    replace H : (if (t411 != t412) = true then (none) else (some ())) = some () := H
    have A94 := Aside0.mk A940
    clear A940
    by_cases c95 : (t411 != t412) = true
    ·rw [if_pos c95] at H
     exact absurd H (by simp)
    rw [if_neg c95] at H
    have c95b0 : (t411 != t412) = false := by simpa using c95
    (try (have c95b1 : decide (t411 = t412) = true := by simpa using c95))
    (try (have c95b2 : (t411 == t412) = true := by simpa using c95))
    clear c95
    go_wp2_with (first | ((with_reducible refine gate_callee (f := 25) rfl ?_); refine goesL_ (some 250) rfl rfl Tryz.func25 (by kernel_rfl) rfl #[.slice A0 l0.length c0] rfl (zq7) ?_; (with_reducible refine (plan_Valid.calls k1 _ _ l0 t411 _ ?side1 ?side2 A93.out).mono ?_); (case side1 => exact zq28); (case side2 => exact zq29); rintro e w96 ⟨rfl, hb⟩; refine ⟨_, rfl, ?_⟩; replace HO_27 := Aside0.mk (Kd.R_below (zq145) hb); replace HO_119 := Aside0.mk (Kd.R_below (zq146) hb); replace HB := Aside0.mk (below_step (zq5) hb); (try clear hb); (try clear hb2); (try clear hk); (try clear hi)) | ((with_reducible refine gate_callee (f := 26) rfl ?_); refine goesL_ (some 252) rfl rfl Tryz.func26 (by kernel_rfl) rfl #[.slice A0 l0.length c0] rfl (zq7) ?_; (with_reducible refine (dialtoneref12_Valid.calls k1 _ _ l0 t412 _ ?side1 ?side2 A94.out).mono ?_); (case side1 => exact zq28); (case side2 => exact zq29); rintro e w97 ⟨rfl, hb⟩; refine ⟨_, rfl, ?_⟩; replace HO_27 := Aside0.mk (Kd.R_below (zq145) hb); replace HO_119 := Aside0.mk (Kd.R_below (zq146) hb); replace HB := Aside0.mk (below_step (zq5) hb); (try clear hb); (try clear hb2); (try clear hk); (try clear hi)))
    exact pieceQ_n (fun C_ h_ => h_ _ _ _ _ _ _ _ _ _ _ _ _ _ _ _ _ _ _ _ _ _ _ _ _ _ _ _ _ _ _ _ _ _ _ _ _ _ _ _ _ _ _ _ _ _ _ _ _ _ _ _ _ _ _ _ _ _ _ _ _ _ _ _ _ _ _ _ _ _ _ _ _ _ _ _ _ _ _ _ _ _ _ _ _ _ _ _ _ _ _ _ _ _ _ _ _ _ _ _ _ _ _ _ _ _ _ _ _ _ _ _ _ _ _ _ _ _ _ _ _ _ _ _ _ _ _ _ _ _ _ _ _ _ _ _ _ _ _ _ _ _ _ _ _ _ _ _ _ _ _ _ _ _ _ _ _ _ _ _ _ _ _ _ _ _) (zq5)
   rw [if_pos c20] at H
   have c20b0 : decide (x121_1 < (y361.length : Int)) = true := decide_eq_true c20
   clear c20
   by_cases c21 : 0 ≤ x121_1
   rotate_left
   ·rw [if_neg c21] at H
    exact absurd H (by simp)
   rw [if_pos c21] at H
   have c21b0 : decide (0 ≤ x121_1) = true := decide_eq_true c21
   clear c21
   by_cases c22 : x121_1 < (y361.length : Int)
   rotate_left
   ·rw [if_neg c22] at H
    exact absurd H (by simp)
   rw [if_pos c22] at H
   have c22b0 : decide (x121_1 < (y361.length : Int)) = true := decide_eq_true c22
   clear c22
   obtain ⟨y365, hy365⟩ : ∃ y_ : List Int, y_ = (([a4, a5] : List Int)) := ⟨_, rfl⟩
   replace H : (dialtonelaw12_PlanMatchesReference_round.l1 k1 l1 a4 a6 a5 l0 x27_1 (rd y361 x121_1) y361 (y361.length : Int) x121_1 y365 (y365.length : Int) 0) = some () := by first | (rw [hy365]; with_reducible exact H) | (have H2_ := (Option.bind_some _ _).symm.trans H; rw [hy365]; with_reducible exact H2_) | (have H2_ := (Option.bind_some _ _).symm.trans H; with_reducible exact H2_) | with_reducible exact H | (rw [hy365]; exact H) | exact H
   have Ny365 := Aside0.mk hy365
   clear hy365
   have H' := Aside0.mk H
   clear H
   have p364 : 0 ≤ (x121_1 : Int) := of_decide_eq_true (zq18)
   have q364 : x121_1 < (y361.length : Int) := of_decide_eq_true (zq18)
   obtain ⟨ad364, e364, hx364_0⟩ := Kd.at_int (Kd.R_reads' HO_119.out).2.2 x121_1 p364 q364
   cases e364
   replace p364 := eq_true p364
   replace q364 := eq_true q364
   go_wp2_with (first | ((with_reducible refine gate_dst (N := 127) rfl ?_); refine Kd.R_lit (Kd.int .i64) _ 3 ?hg (N := 127) ?hd (xs := ([a4, a5] : List Int)) (inner := [.int .i64 a4, .int .i64 a5]) (ok := fun _ => True) (okp := fun _ => True) ?hr ?hp (fun _ hk => hk) trivial (Below.refl _ _) (Nat.le_refl _) (by simp) ?_; (case hd => rfl); (case hg => rfl); (case hr => exact zq3); (case hp => exact (Reps.one (show Kd.M (Kd.int .i64) _ _ _ a4 [.int .i64 a4] from rfl) (Reps.one (show Kd.M (Kd.int .i64) _ _ _ a5 [.int .i64 a5] from rfl) (Reps.none _ _)))); intro v366 w23 ho24 hb hg_ hnew_; clear hg_ hnew_; (first | rw [← Ny365.out] at ho24 | (simp only [Int.reduceToNat] at ho24; rw [← Ny365.out] at ho24)); replace HO_27 := Aside0.mk (Kd.R_below (zq145) hb); have HO367 := Aside0.mk (Kd.R_lower (Kd.R_new' ho24 (Kd.R_lt (zq146))) (below_size (zq5))); replace HO_119 := Aside0.mk (Kd.R_elder' (zq146) (Kd.R_base ho24) hb); replace HB := Aside0.mk (below_step (zq5) hb); clear hb ho24; obtain ⟨Ao25, co25, eo25⟩ := Kd.R_slice HO367.out; subst eo25))
   go_loopg [27, 129] k1 (fun kq v27 v129 w' => ∃ (x27_2 : List ByteArray) (x129_2 : Int), v129 = .int .i64 x129_2 ∧ Aside0 (dialtonelaw12_PlanMatchesReference_round.l1 kq l1 a4 a6 a5 l0 x27_2 (rd y361 x121_1) y361 (y361.length : Int) x121_1 y365 (y365.length : Int) x129_2 = some ()) ∧ Aside0 (kq ≤ k1) ∧ Aside0 (Kd.R Kd.string 9 w' w.heap.size (fun _ => True) v27 x27_2) ∧ Aside0 (Kd.R (Kd.int .i64) 3 w' w.heap.size (fun k_ => some k_ ≠ ((.slice Ao25 y365.length co25) : Value).ownBlock) (.slice (some ad364) y361.length co19) y361) ∧ Aside0 (Kd.R (Kd.int .i64) 3 w' w.heap.size (fun k_ => some k_ ≠ ((.slice (some ad364) y361.length co19) : Value).ownBlock) (.slice Ao25 y365.length co25) y365) ∧ Aside0 (Below w.heap.size w w'))
   case atStart => exact ⟨(x27_1), (0), (zq1), H', ⟨Nat.le_refl _⟩, ⟨zq145⟩, ⟨zq159⟩, ⟨by (with_reducible repeat (first | apply Kd.R_alloc | apply Kd.R_drewN | apply Kd.R_drew)); exact Kd.R_mono HO367.out (fun _ hk => hk.2)⟩, ⟨zq5⟩⟩
   case round =>
    clear H'
    try clear c1
    try clear c2
    try clear p2
    try clear p3
    try clear q3
    try clear hx3
    try clear p6
    try clear c10
    try clear c10b0
    try clear c10b1
    try clear c11
    try clear c11b0
    try clear c11b1
    try clear c15
    try clear c16
    try clear c20
    try clear c20b0
    try clear c21
    try clear c21b0
    try clear c22
    try clear c22b0
    try clear hx364_0
    try clear p2
    try clear p364
    try clear p6
    try clear q364
    obtain ⟨x27_2, x129_2, rfl, HA, HK2, HO_27, HO_119, HO_127, HB⟩ := hrel
    cases gk with
    | zero => exact absurd HA.out (by simp [dialtonelaw12_PlanMatchesReference_round.l1])
    | succ k2 =>
     have H := HA.out
     clear HA
     simp only [dialtonelaw12_PlanMatchesReference_round.l1] at H
     by_cases c26 : x129_2 < (y365.length : Int)
     ·rw [if_pos c26] at H
      have c26b0 : decide (x129_2 < (y365.length : Int)) = true := decide_eq_true c26
      clear c26
      by_cases c27 : 0 ≤ x129_2
      rotate_left
      ·rw [if_neg c27] at H
       exact absurd H (by simp)
      rw [if_pos c27] at H
      have c27b0 : decide (0 ≤ x129_2) = true := decide_eq_true c27
      clear c27
      by_cases c28 : x129_2 < (y365.length : Int)
      rotate_left
      ·rw [if_neg c28] at H
       exact absurd H (by simp)
      rw [if_pos c28] at H
      have c28b0 : decide (x129_2 < (y365.length : Int)) = true := decide_eq_true c28
      clear c28
      replace H := Option.bind_eq_some_iff.mp H
      obtain ⟨⟨t369, t370⟩, A290, H⟩ := H
      replace H : ((dialtoneref12_Write.f k2 l0 (rd y365 x129_2) (rd y361 x121_1)).bind fun bt371 => (if t369.toList = bt371.1.toList then (if t370 = bt371.2 then (if 0 ≤ (mn (l1.length : Int) 8) then (if (mn (l1.length : Int) 8) ≤ (l1.length : Int) then ((dialtonelaw12_text.f k2 (l1.take ((mn (l1.length : Int) 8) : Int).toNat)).bind fun t374 => (if bt371.1.size + t374.size ≤ 9223372036854775807 then (if 0 ≤ (wrap64 ((bt371.1.size : Int) / 2)) then (if (wrap64 ((bt371.1.size : Int) / 2)) ≤ (bt371.1.size : Int) then ((some (([bt371.1 ++ t374, bt371.1.extract 0 ((wrap64 ((bt371.1.size : Int) / 2)) : Int).toNat] : List ByteArray) : List ByteArray)).bind fun y375 => (if x27_2.length + y375.length < 8796093022208 then (dialtonelaw12_PlanMatchesReference_round.l1 k2 l1 a4 a6 a5 l0 (x27_2 ++ y375) (rd y361 x121_1) y361 (y361.length : Int) x121_1 y365 (y365.length : Int) (wrap64 (x129_2 + 1))) else (none))) else (none)) else (none)) else (none))) else (none)) else (none)) else (none)) else (none))) = some () := H
      have A29 := Aside0.mk A290
      clear A290
      replace H := Option.bind_eq_some_iff.mp H
      obtain ⟨⟨t371, t372⟩, A300, H⟩ := H
      replace H : (if t369.toList = t371.toList then (if t370 = t372 then (if 0 ≤ (mn (l1.length : Int) 8) then (if (mn (l1.length : Int) 8) ≤ (l1.length : Int) then ((dialtonelaw12_text.f k2 (l1.take ((mn (l1.length : Int) 8) : Int).toNat)).bind fun t374 => (if t371.size + t374.size ≤ 9223372036854775807 then (if 0 ≤ (wrap64 ((t371.size : Int) / 2)) then (if (wrap64 ((t371.size : Int) / 2)) ≤ (t371.size : Int) then ((some (([t371 ++ t374, t371.extract 0 ((wrap64 ((t371.size : Int) / 2)) : Int).toNat] : List ByteArray) : List ByteArray)).bind fun y375 => (if x27_2.length + y375.length < 8796093022208 then (dialtonelaw12_PlanMatchesReference_round.l1 k2 l1 a4 a6 a5 l0 (x27_2 ++ y375) (rd y361 x121_1) y361 (y361.length : Int) x121_1 y365 (y365.length : Int) (wrap64 (x129_2 + 1))) else (none))) else (none)) else (none)) else (none))) else (none)) else (none)) else (none)) else (none)) = some () := H
      have A30 := Aside0.mk A300
      clear A300
      by_cases c31 : t369.toList = t371.toList
      rotate_left
      ·rw [if_neg c31] at H
       exact absurd H (by simp)
      rw [if_pos c31] at H
      have c31b0 : (t369.toList == t371.toList) = true := beq_iff_eq.mpr c31
      have c31b1 : (t369.toList != t371.toList) = false := bne_eq_false_iff_eq.mpr c31
      clear c31
      by_cases c32 : t370 = t372
      rotate_left
      ·rw [if_neg c32] at H
       exact absurd H (by simp)
      rw [if_pos c32] at H
      have c32b0 : (t370 == t372) = true := beq_iff_eq.mpr c32
      have c32b1 : (t370 != t372) = false := bne_eq_false_iff_eq.mpr c32
      clear c32
      obtain ⟨ji33, hji33⟩ : ∃ j_ : Int, (mn (l1.length : Int) 8) = j_ := ⟨_, rfl⟩
      replace H : (if 0 ≤ (ji33) then (if (ji33) ≤ (l1.length : Int) then ((dialtonelaw12_text.f k2 (l1.take ((ji33) : Int).toNat)).bind fun t374 => (if t371.size + t374.size ≤ 9223372036854775807 then (if 0 ≤ (wrap64 ((t371.size : Int) / 2)) then (if (wrap64 ((t371.size : Int) / 2)) ≤ (t371.size : Int) then ((some (([t371 ++ t374, t371.extract 0 ((wrap64 ((t371.size : Int) / 2)) : Int).toNat] : List ByteArray) : List ByteArray)).bind fun y375 => (if x27_2.length + y375.length < 8796093022208 then (dialtonelaw12_PlanMatchesReference_round.l1 k2 l1 a4 a6 a5 l0 (x27_2 ++ y375) (rd y361 x121_1) y361 (y361.length : Int) x121_1 y365 (y365.length : Int) (wrap64 (x129_2 + 1))) else (none))) else (none)) else (none)) else (none))) else (none)) else (none)) = some () := by first | (rw [hji33] at H; exact H) | (simp only [hji33] at H ⊢; exact H)
      (try rw [hji33] at A29)
      (try rw [hji33] at A30)
      have hji33_ : (if 8 < (l1.length : Int) then 8 else (l1.length : Int)) = ji33 := hji33
      by_cases c34 : 0 ≤ (ji33)
      rotate_left
      ·rw [if_neg c34] at H
       exact absurd H (by simp)
      rw [if_pos c34] at H
      have c34b0 := eq_true c34
      have c34b1 : decide (0 ≤ (ji33)) = true := decide_eq_true c34
      clear c34
      by_cases c35 : (ji33) ≤ (l1.length : Int)
      rotate_left
      ·rw [if_neg c35] at H
       exact absurd H (by simp)
      rw [if_pos c35] at H
      have c35b0 := eq_true c35
      have c35b1 : decide ((ji33) ≤ (l1.length : Int)) = true := decide_eq_true c35
      clear c35
      replace H := Option.bind_eq_some_iff.mp H
      obtain ⟨t374, A360, H⟩ := H
      replace H : (if t371.size + t374.size ≤ 9223372036854775807 then (if 0 ≤ (wrap64 ((t371.size : Int) / 2)) then (if (wrap64 ((t371.size : Int) / 2)) ≤ (t371.size : Int) then ((some (([t371 ++ t374, t371.extract 0 ((wrap64 ((t371.size : Int) / 2)) : Int).toNat] : List ByteArray) : List ByteArray)).bind fun y375 => (if x27_2.length + y375.length < 8796093022208 then (dialtonelaw12_PlanMatchesReference_round.l1 k2 l1 a4 a6 a5 l0 (x27_2 ++ y375) (rd y361 x121_1) y361 (y361.length : Int) x121_1 y365 (y365.length : Int) (wrap64 (x129_2 + 1))) else (none))) else (none)) else (none)) else (none)) = some () := H
      have A36 := Aside0.mk A360
      clear A360
      by_cases c37 : t371.size + t374.size ≤ 9223372036854775807
      rotate_left
      ·rw [if_neg c37] at H
       exact absurd H (by simp)
      rw [if_pos c37] at H
      have c37b0 := eq_true c37
      have c37b1 : decide (t371.size + t374.size ≤ 9223372036854775807) = true := decide_eq_true c37
      try have c37b2 : (9223372036854775807 < t371.size + t374.size) = False := eq_false (Nat.not_lt.2 c37)
      obtain ⟨ji38, hji38⟩ : ∃ j_ : Int, (wrap64 ((t371.size : Int) / 2)) = j_ := ⟨_, rfl⟩
      replace H : (if 0 ≤ (ji38) then (if (ji38) ≤ (t371.size : Int) then ((some (([t371 ++ t374, t371.extract 0 ((ji38) : Int).toNat] : List ByteArray) : List ByteArray)).bind fun y375 => (if x27_2.length + y375.length < 8796093022208 then (dialtonelaw12_PlanMatchesReference_round.l1 k2 l1 a4 a6 a5 l0 (x27_2 ++ y375) (rd y361 x121_1) y361 (y361.length : Int) x121_1 y365 (y365.length : Int) (wrap64 (x129_2 + 1))) else (none))) else (none)) else (none)) = some () := by first | (rw [hji38] at H; exact H) | (simp only [hji38] at H ⊢; exact H)
      (try rw [hji38] at A29)
      (try rw [hji38] at A30)
      (try rw [hji38] at A36)
      have hji38w : (IntKind.i64.wrap ((t371.size : Int) / 2)) = ji38 := (i64_w _).trans hji38
      by_cases c39 : 0 ≤ (ji38)
      rotate_left
      ·rw [if_neg c39] at H
       exact absurd H (by simp)
      rw [if_pos c39] at H
      have c39b0 := eq_true c39
      have c39b1 : decide (0 ≤ (ji38)) = true := decide_eq_true c39
      clear c39
      by_cases c40 : (ji38) ≤ (t371.size : Int)
      rotate_left
      ·rw [if_neg c40] at H
       exact absurd H (by simp)
      rw [if_pos c40] at H
      have c40b0 := eq_true c40
      have c40b1 : decide ((ji38) ≤ (t371.size : Int)) = true := decide_eq_true c40
      clear c40
      obtain ⟨y375, hy375⟩ : ∃ y_ : List ByteArray, y_ = (([t371 ++ t374, t371.extract 0 ((ji38) : Int).toNat] : List ByteArray)) := ⟨_, rfl⟩
      replace H : (if x27_2.length + y375.length < 8796093022208 then (dialtonelaw12_PlanMatchesReference_round.l1 k2 l1 a4 a6 a5 l0 (x27_2 ++ y375) (rd y361 x121_1) y361 (y361.length : Int) x121_1 y365 (y365.length : Int) (wrap64 (x129_2 + 1))) else (none)) = some () := by first | (rw [hy375]; with_reducible exact H) | (have H2_ := (Option.bind_some _ _).symm.trans H; rw [hy375]; with_reducible exact H2_) | (have H2_ := (Option.bind_some _ _).symm.trans H; with_reducible exact H2_) | with_reducible exact H | (rw [hy375]; exact H) | exact H
      have Ny375 := Aside0.mk hy375
      clear hy375
      by_cases c41 : x27_2.length + y375.length < 8796093022208
      rotate_left
      ·rw [if_neg c41] at H
       exact absurd H (by simp)
      rw [if_pos c41] at H
      have LMc41 := Aside0.mk c41
      clear c41
      obtain ⟨y378, hy378⟩ : ∃ y_ : List ByteArray, y_ = (x27_2 ++ y375) := ⟨_, rfl⟩
      replace H : (dialtonelaw12_PlanMatchesReference_round.l1 k2 l1 a4 a6 a5 l0 y378 (rd y361 x121_1) y361 (y361.length : Int) x121_1 y365 (y365.length : Int) (wrap64 (x129_2 + 1))) = some () := by first | (rw [hy378]; with_reducible exact H) | (have H2_ := (Option.bind_some _ _).symm.trans H; rw [hy378]; with_reducible exact H2_) | (have H2_ := (Option.bind_some _ _).symm.trans H; with_reducible exact H2_) | with_reducible exact H | (rw [hy378]; exact H) | exact H
      have Ny378 := Aside0.mk hy378
      clear hy378
      have H' := Aside0.mk H
      clear H
      have p368 : 0 ≤ (x129_2 : Int) := of_decide_eq_true (zq18)
      have q368 : x129_2 < (y365.length : Int) := of_decide_eq_true (zq18)
      obtain ⟨ad368, e368, hx368_0⟩ := Kd.at_int (Kd.R_reads' HO_127.out).2.2 x129_2 p368 q368
      cases e368
      replace p368 := eq_true p368
      replace q368 := eq_true q368
      try go_wp2_with (first | ((with_reducible refine gate_callee (f := 17) rfl ?_); refine goesL_ (some 137) rfl rfl Tryz.func17 (by kernel_rfl) rfl #[.slice A0 l0.length c0, .int .i64 (rd y365 x129_2), .int .i64 (rd y361 x121_1)] rfl (zq7) ?_; (with_reducible refine (plan_Write.calls k2 _ _ l0 (rd y365 x129_2) (rd y361 x121_1) t369 t370 _ ?side1 ?side2 ?side3 A29.out).mono ?_); (case side1 => exact zq28); (case side2 => exact zq29); (case side3 => exact zq33); rintro e w42 ⟨rfl, hb⟩; refine ⟨_, rfl, ?_⟩; replace HO_27 := Aside0.mk (Kd.R_below (zq145) hb); replace HO_119 := Aside0.mk (Kd.R_below (zq146) hb); replace HO_127 := Aside0.mk (Kd.R_below (zq147) hb); replace HB := Aside0.mk (below_step (zq5) hb); (try clear hb); (try clear hb2); (try clear hk); (try clear hi)) | ((with_reducible refine gate_callee (f := 18) rfl ?_); refine goesL_ (some 144) rfl rfl Tryz.func18 (by kernel_rfl) rfl #[.slice A0 l0.length c0, .int .i64 (rd y365 x129_2), .int .i64 (rd y361 x121_1)] rfl (zq7) ?_; (with_reducible refine (dialtoneref12_Write.calls k2 _ _ l0 (rd y365 x129_2) (rd y361 x121_1) t371 t372 _ ?side1 ?side2 A30.out).mono ?_); (case side1 => exact zq28); (case side2 => exact zq29); rintro e w43 ⟨rfl, hb⟩; refine ⟨_, rfl, ?_⟩; replace HO_27 := Aside0.mk (Kd.R_below (zq145) hb); replace HO_119 := Aside0.mk (Kd.R_below (zq146) hb); replace HO_127 := Aside0.mk (Kd.R_below (zq147) hb); replace HB := Aside0.mk (below_step (zq5) hb); (try clear hb); (try clear hb2); (try clear hk); (try clear hi)))
      replace HO_27 := Aside0.mk (Kd.R_drew HO_27.out)
      replace HO_119 := Aside0.mk (Kd.R_drew HO_119.out)
      replace HO_127 := Aside0.mk (Kd.R_drew HO_127.out)
      replace HB := Aside0.mk (below_drew1 HB.out)
      obtain ⟨i045, hi045, _, hsz45, _⟩ := info_parts info3
      obtain ⟨hcut45, hA45, hC45⟩ := print_take_of (P := Tryz.prog) (Value.int .i64) 0 25 3 .i64 Tryz.underlying25 hi045 hsz45 A1 c1 l1 (ji33) (of_decide_eq_true (zq18)) (of_decide_eq_true (zq18)) HC1.out
      have HR373 := Aside0.mk (Kd.C_of_reads (h1 := fun _ => rfl) (hA45 _ (Kd.reads_of_C HR1.out)))
      have HC373 := Aside0.mk hC45
      clear hA45 hC45 hi045 hsz45
      refine start_ (n := 17) (S := fun w' => True) (ds := []) (bm 17 0) (by kernel_rfl) rfl rfl trivial (fun hHeld => ?_); refine with_tabW dialtonelaw12_PlanMatchesReference_round.tab26 dialtonelaw12_PlanMatchesReference_round.bits26 (fun HT_ HW_ => ?_)
      generalize w43.drew = w44 at HO_27 HO_119 HO_127 HB HR373 hHeld ⊢
      refine pz 0 (some 155) (bm 17 1) HT_ ?_
      refine pz 1 (some 156) (bm 17 3) HT_ ?_
      refine pz 2 (some 157) (bm 17 7) HT_ ?_
      refine pz 3 (some 158) (bm 17 15) HT_ ?_
      refine pz 4 (some 159) (bm 17 31) HT_ ?_
      refine pz 5 (some 160) (bm 17 63) HT_ ?_
      refine pz 6 (some 161) (bm 17 127) HT_ ?_
      refine pz 9 (some 164) (bm 17 639) HT_ ?_
      refine pz 10 (some 165) (bm 17 1663) HT_ ?_
      refine pz 11 (some 166) (bm 17 3711) HT_ ?_
      refine pz 12 (some 167) (bm 17 7807) HT_ ?_
      refine pz 13 (some 168) (bm 17 15999) HT_ ?_
      refine one_ (i := 7) (N := some 162) (bm 17 16127) rfl rfl (one_of HT_.out (by kernel_rfl)) (by decide) (fun K hK => ?_)
      refine goes_ Tryz.func15 (by kernel_rfl) rfl #[.slice A1 (l1.take ((ji33) : Int).toNat).length c1] (by rfl) rfl rfl (by (try simp only [List.map_toArray, List.map_cons, List.map_nil]); first | done | (rw [show (l1.take ((ji33) : Int).toNat).length = (ji33).toNat from (by rw [List.length_take]; have h_ : ((ji33) : Int) ≤ (l1.length : Int) := of_decide_eq_true (zq18); omega)] <;> rfl) | (simp only [hji33]; rfl) | rfl | (simp only [List.length_drop, List.length_take]; rfl) | (simp (disch := omega) only [wrap64_of]; done) | (simp (disch := omega) only [wrap64_of]; rfl)) ?_
      with_reducible refine (dialtonelaw12_text.calls k2 _ _ (l1.take ((ji33) : Int).toNat) t374 _ ?side1 ?side2 A36.out).mono ?_
      (case side1 => repeat (first | exact (Kd.C_below HR373.out HB.out) | (with_reducible refine Kd.C_alloc ?_ _) | (with_reducible refine Kd.C_drewN ?_ _) | (with_reducible refine Kd.C_drew ?_)))
      (case side2 => exact HC373.out)
      rintro e w46 ⟨rfl, hb⟩
      refine ⟨_, rfl, ?_⟩
      replace HO_27 := Aside0.mk (Kd.R_below (zq145) hb)
      replace HO_119 := Aside0.mk (Kd.R_below (zq146) hb)
      replace HO_127 := Aside0.mk (Kd.R_below (zq147) hb)
      replace HB := Aside0.mk (below_step (zq5) hb)
      (try clear hb)
      (try clear hb2)
      (try clear hk)
      (try clear hi)
      refine hK.out _ _ trivial (fun hHeld => ?_)
      clear hK K
      refine nz (some 162) ?_
      refine pz 8 (some 163) (bm 17 16383) HT_ ?_
      refine one_ (i := 14) (N := some 169) (bm 17 32767) rfl rfl (one_of HT_.out (by kernel_rfl)) (by decide) (fun K hK => ?_)
      refine Kd.R_lit_step Kd.string _ 9 ?hg (N := 169) ?hd (xs := ([t371 ++ t374, t371.extract 0 ((ji38) : Int).toNat] : List ByteArray)) (inner := [.string (t371 ++ t374), .string (t371.extract 0 ((ji38) : Int).toNat)]) (ok := fun _ => True) (okp := fun _ => True) ?hr ?hp (fun _ hk => hk) trivial (Below.refl _ _) (Nat.le_refl _) (by simp) ?_; (case hd => rfl); (case hg => rfl); (case hr => exact zq3); (case hp => exact (Reps.one (show Kd.M Kd.string _ _ _ (t371 ++ t374) [.string (t371 ++ t374)] from rfl) (Reps.one (show Kd.M Kd.string _ _ _ (t371.extract 0 ((ji38) : Int).toNat) [.string (t371.extract 0 ((ji38) : Int).toNat)] from rfl) (Reps.none _ _))))
      intro v376 w47 ho48 hb hg_ hnew_
      clear hg_ hnew_
      (first | rw [← Ny375.out] at ho48 | (simp only [Int.reduceToNat] at ho48; rw [← Ny375.out] at ho48))
      replace HO_119 := Aside0.mk (Kd.R_below (zq146) hb)
      replace HO_127 := Aside0.mk (Kd.R_below (zq147) hb)
      have HO377 := Aside0.mk (Kd.R_lower (Kd.R_new' ho48 (Kd.R_lt (zq145))) (below_size (zq5)))
      replace HO_27 := Aside0.mk (Kd.R_elder' (zq145) (Kd.R_base ho48) hb)
      replace HB := Aside0.mk (below_step (zq5) hb)
      clear hb ho48
      obtain ⟨Ao50, co50, eo50⟩ := Kd.R_slice HO377.out
      (first | subst eo50 | (injection eo50 with f1_ f2_ f3_; have f4_ := f1_.symm; have f5_ := f3_.symm; clear f1_ f2_ f3_; subst f4_; subst f5_))
      refine hK.out _ _ trivial (fun hHeld => ?_)
      clear hK K
      refine nz (some 169) ?_
      refine one_ (i := 15) (N := some 170) (bm 17 65535) rfl rfl (one_of HT_.out (by kernel_rfl)) (by decide) (fun K hK => ?_)
      refine Kd.R_append_rows_step Kd.string (w0 := w) w.heap.size (by rfl) (.tmp 155) (.tmp 169) 34 9 (.string ⟨#[]⟩) 16 rfl Tryz.underlying34 info9 rfl (by decide) (by omega) u27 x27_2 y375 _ _ _ (fun k_ => some k_ ≠ (.slice Ao50 y375.length co50 : Value).ownBlock) (fun _ => False) rfl rfl ?aO ?aR (fun _ _ h => h) (fun _ h => h.elim) ?aF ?aB ?aS ?aL ?_
      (case aR => repeat (first | exact (Kd.R_reads' HO377.out).2.2 | (with_reducible refine Kd.C_alloc ?_ _) | (with_reducible refine Kd.C_drewN ?_ _) | (with_reducible refine Kd.C_drew ?_)))
      (case aB => exact zq98)
      (case aF => exact (fun k_ hk => Kd.fresh' (Kd.R_lt (zq148)) k_ hk))
      (case aO => exact (by (with_reducible repeat (first | apply Kd.R_alloc | apply Kd.R_drewN | apply Kd.R_drew)); exact Kd.R_mono HO_27.out (fun _ hk => hk.2)))
      (case aS => exact zq102)
      (case aL => have := LMc41.out; omega)
      intro v379 w49 ho hb hg hat
      rw [← Ny378.out] at ho
      replace HO_119 := Aside0.mk (Kd.R_over' (zq146) (Kd.R_typed (zq145)) (by decide) hg)
      replace HO_127 := Aside0.mk (Kd.R_over' (zq147) (Kd.R_typed (zq145)) (by decide) hg)
      replace HO377 := Aside0.mk (Kd.R_after (ok := (fun _ => True)) (zq148) hg hat)
      replace HB := Aside0.mk (hb)
      have HO380 := Aside0.mk (ho)
      clear HO_27
      clear ho hb hg hat
      refine hK.out _ _ trivial (fun hHeld => ?_)
      clear hK K
      refine nz (some 170) ?_
      refine pz 16 (some 27) (bm 17 131071) HT_ ?_
      refine done_ (done_of HT_.out (by kernel_rfl)) ?_
      try go_wp2
      go_roundg k2
      case measure => have := HK1.out; have := HK2.out; omega
      case rel => exact ⟨(y378), (wrap64 (x129_2 + 1)), (zq1), H', ⟨zq27⟩, ⟨by (with_reducible repeat (first | apply Kd.R_alloc | apply Kd.R_drewN | apply Kd.R_drew)); exact Kd.R_mono HO380.out (fun _ hk => trivial)⟩, ⟨zq146⟩, ⟨zq147⟩, ⟨zq5⟩⟩
     rw [if_neg c26] at H
     have c26b0 : decide (x129_2 < (y365.length : Int)) = false := decide_eq_false c26
     clear c26
     replace H := Option.bind_eq_some_iff.mp H
     obtain ⟨t381, A510, H⟩ := H
     replace H : ((some (([a6, t381] : List Int) : List Int)).bind fun y382 => (dialtonelaw12_PlanMatchesReference_round.l2 k2 l1 a4 a6 a5 l0 x27_2 (rd y361 x121_1) y361 (y361.length : Int) x121_1 y382 (y382.length : Int) 0)) = some () := H
     have A51 := Aside0.mk A510
     clear A510
     obtain ⟨y382, hy382⟩ : ∃ y_ : List Int, y_ = (([a6, t381] : List Int)) := ⟨_, rfl⟩
     replace H : (dialtonelaw12_PlanMatchesReference_round.l2 k2 l1 a4 a6 a5 l0 x27_2 (rd y361 x121_1) y361 (y361.length : Int) x121_1 y382 (y382.length : Int) 0) = some () := by first | (rw [hy382]; with_reducible exact H) | (have H2_ := (Option.bind_some _ _).symm.trans H; rw [hy382]; with_reducible exact H2_) | (have H2_ := (Option.bind_some _ _).symm.trans H; with_reducible exact H2_) | with_reducible exact H | (rw [hy382]; exact H) | exact H
     have Ny382 := Aside0.mk hy382
     clear hy382
     have H' := Aside0.mk H
     clear H
     go_wp2_with (first | ((with_reducible refine gate_callee (f := 16) rfl ?_); refine goesL_ (some 174) rfl rfl Tryz.func16 (by kernel_rfl) rfl #[.int .i64 a6, .int .i64 9] rfl (zq7) ?_; (with_reducible refine (dialtonelaw12_pick.calls a6 9 t381 _ A51.out).mono ?_); rintro e w' ⟨rfl, ⟨nd, rfl⟩⟩; refine ⟨_, rfl, ?_⟩) | ((with_reducible refine gate_dst (N := 175) rfl ?_); refine Kd.R_lit (Kd.int .i64) _ 3 ?hg (N := 175) ?hd (xs := ([a6, t381] : List Int)) (inner := [.int .i64 a6, .int .i64 t381]) (ok := fun _ => True) (okp := fun _ => True) ?hr ?hp (fun _ hk => hk) trivial (Below.refl _ _) (Nat.le_refl _) (by simp) ?_; (case hd => rfl); (case hg => rfl); (case hr => exact zq3); (case hp => exact (Reps.one (show Kd.M (Kd.int .i64) _ _ _ a6 [.int .i64 a6] from rfl) (Reps.one (show Kd.M (Kd.int .i64) _ _ _ t381 [.int .i64 t381] from rfl) (Reps.none _ _)))); intro v383 w52 ho53 hb hg_ hnew_; clear hg_ hnew_; (first | rw [← Ny382.out] at ho53 | (simp only [Int.reduceToNat] at ho53; rw [← Ny382.out] at ho53)); replace HO_27 := Aside0.mk (Kd.R_below (zq145) hb); have HO384 := Aside0.mk (Kd.R_lower (Kd.R_new' (Kd.R_new' ho53 (Kd.R_lt (zq146))) (Kd.R_lt (zq147))) (below_size (zq5))); replace HO_119 := Aside0.mk (Kd.R_elder' (zq146) (Kd.R_base ho53) hb); replace HO_127 := Aside0.mk (Kd.R_elder' (zq147) (Kd.R_base ho53) hb); replace HB := Aside0.mk (below_step (zq5) hb); clear hb ho53; obtain ⟨Ao54, co54, eo54⟩ := Kd.R_slice HO384.out; subst eo54))
     go_loopg [177] k2 (fun kq v177 w' => ∃ (x177_3 : Int), v177 = .int .i64 x177_3 ∧ Aside0 (dialtonelaw12_PlanMatchesReference_round.l2 kq l1 a4 a6 a5 l0 x27_2 (rd y361 x121_1) y361 (y361.length : Int) x121_1 y382 (y382.length : Int) x177_3 = some ()) ∧ Aside0 (kq ≤ k2) ∧ Aside0 (Kd.R Kd.string 9 w' w.heap.size (fun _ => True) u27 x27_2) ∧ Aside0 (Kd.R (Kd.int .i64) 3 w' w.heap.size (fun k_ => some k_ ≠ ((.slice Ao54 y382.length co54) : Value).ownBlock) (.slice (some ad364) y361.length co19) y361) ∧ Aside0 (Kd.R (Kd.int .i64) 3 w' w.heap.size (fun k_ => some k_ ≠ ((.slice (some ad364) y361.length co19) : Value).ownBlock) (.slice Ao54 y382.length co54) y382) ∧ Aside0 (Below w.heap.size w w'))
     case atStart => exact ⟨(0), (zq1), H', ⟨Nat.le_refl _⟩, ⟨zq145⟩, ⟨zq159⟩, ⟨by (with_reducible repeat (first | apply Kd.R_alloc | apply Kd.R_drewN | apply Kd.R_drew)); exact Kd.R_mono HO384.out (fun _ hk => hk.1.2)⟩, ⟨zq5⟩⟩
     case round =>
      clear H'
      try clear c1
      try clear c2
      try clear p2
      try clear c3
      try clear p3
      try clear q3
      try clear hx3
      try clear c4
      try clear p6
      try clear c10
      try clear c10b0
      try clear c10b1
      try clear c11
      try clear c11b0
      try clear c11b1
      try clear c15
      try clear c16
      try clear c17
      try clear c18
      try clear c20
      try clear c20b0
      try clear c21
      try clear c21b0
      try clear c22
      try clear c22b0
      try clear c26
      try clear c26b0
      try clear c27
      try clear c27b0
      try clear c28
      try clear c28b0
      try clear c31
      try clear c31b0
      try clear c31b1
      try clear c32
      try clear c32b0
      try clear c32b1
      try clear c34
      try clear c34b0
      try clear c34b1
      try clear c35
      try clear c35b0
      try clear c35b1
      try clear p36
      try clear q36
      try clear hx36
      try clear c37
      try clear c37b0
      try clear c37b1
      try clear c37b2
      try clear c39
      try clear c39b0
      try clear c39b1
      try clear c40
      try clear c40b0
      try clear c40b1
      try clear c41
      try clear hx364_0
      try clear hx368_0
      try clear p2
      try clear p3
      try clear p364
      try clear p368
      try clear p6
      try clear q3
      try clear q364
      try clear q368
      obtain ⟨x177_3, rfl, HA, HK3, HO_27, HO_119, HO_175, HB⟩ := hrel
      cases gk with
      | zero => exact absurd HA.out (by simp [dialtonelaw12_PlanMatchesReference_round.l2])
      | succ k3 =>
       have H := HA.out
       clear HA
       simp only [dialtonelaw12_PlanMatchesReference_round.l2] at H
       by_cases c55 : x177_3 < (y382.length : Int)
       ·rw [if_pos c55] at H
        have c55b0 : decide (x177_3 < (y382.length : Int)) = true := decide_eq_true c55
        clear c55
        by_cases c56 : 0 ≤ x177_3
        rotate_left
        ·rw [if_neg c56] at H
         exact absurd H (by simp)
        rw [if_pos c56] at H
        have c56b0 : decide (0 ≤ x177_3) = true := decide_eq_true c56
        clear c56
        by_cases c57 : x177_3 < (y382.length : Int)
        rotate_left
        ·rw [if_neg c57] at H
         exact absurd H (by simp)
        rw [if_pos c57] at H
        have c57b0 : decide (x177_3 < (y382.length : Int)) = true := decide_eq_true c57
        clear c57
        replace H := Option.bind_eq_some_iff.mp H
        obtain ⟨⟨t386, t387, t388⟩, A580, H⟩ := H
        replace H : ((dialtoneref12_Range.f k3 l0 (rd y382 x177_3) (rd y361 x121_1)).bind fun bt390 => (if (!(t386 == bt390.1) || (!(t387 == bt390.2.1))) = true then (none) else (if t388 = bt390.2.2 then (dialtonelaw12_PlanMatchesReference_round.l2 k3 l1 a4 a6 a5 l0 x27_2 (rd y361 x121_1) y361 (y361.length : Int) x121_1 y382 (y382.length : Int) (wrap64 (x177_3 + 1))) else (none)))) = some () := H
        have A58 := Aside0.mk A580
        clear A580
        replace H := Option.bind_eq_some_iff.mp H
        obtain ⟨⟨t390, t391, t392⟩, A590, H⟩ := H
        replace H : (if (!(t386 == t390) || (!(t387 == t391))) = true then (none) else (if t388 = t392 then (dialtonelaw12_PlanMatchesReference_round.l2 k3 l1 a4 a6 a5 l0 x27_2 (rd y361 x121_1) y361 (y361.length : Int) x121_1 y382 (y382.length : Int) (wrap64 (x177_3 + 1))) else (none))) = some () := H
        have A59 := Aside0.mk A590
        clear A590
        by_cases c60 : (!(t386 == t390) || (!(t387 == t391))) = true
        ·rw [if_pos c60] at H
         exact absurd H (by simp)
        rw [if_neg c60] at H
        have c60b0 : (!(t386 == t390) || (!(t387 == t391))) = false := by simpa using c60
        clear c60
        by_cases c61 : t388 = t392
        rotate_left
        ·rw [if_neg c61] at H
         exact absurd H (by simp)
        rw [if_pos c61] at H
        have c61b0 : (t388 == t392) = true := beq_iff_eq.mpr c61
        have c61b1 : (t388 != t392) = false := bne_eq_false_iff_eq.mpr c61
        clear c61
        have H' := Aside0.mk H
        clear H
        have p385 : 0 ≤ (x177_3 : Int) := of_decide_eq_true (zq18)
        have q385 : x177_3 < (y382.length : Int) := of_decide_eq_true (zq18)
        obtain ⟨ad385, e385, hx385_0⟩ := Kd.at_int (Kd.R_reads' HO_175.out).2.2 x177_3 p385 q385
        cases e385
        replace p385 := eq_true p385
        replace q385 := eq_true q385
        go_wp2_with (first | ((with_reducible refine gate_callee (f := 19) rfl ?_); refine goesL_ (some 185) rfl rfl Tryz.func19 (by kernel_rfl) rfl #[.slice A0 l0.length c0, .int .i64 (rd y382 x177_3), .int .i64 (rd y361 x121_1)] rfl (zq7) ?_; (with_reducible refine (plan_Range.calls k3 _ _ l0 (rd y382 x177_3) (rd y361 x121_1) t386 t387 t388 _ ?side1 ?side2 A58.out).mono ?_); (case side1 => exact zq28); (case side2 => exact zq29); rintro e w62 ⟨rfl, hb⟩; refine ⟨_, rfl, ?_⟩; replace HO_27 := Aside0.mk (Kd.R_below (zq145) hb); replace HO_119 := Aside0.mk (Kd.R_below (zq146) hb); replace HO_175 := Aside0.mk (Kd.R_below (zq149) hb); replace HB := Aside0.mk (below_step (zq5) hb); (try clear hb); (try clear hb2); (try clear hk); (try clear hi)) | ((with_reducible refine gate_dst (N := 38) rfl ?_); refine box_event ?hg (N := 38) ?hd (cs := #[.int .i64 0, .int .i64 0]) (t := 40) ?hr ?_; (case hd => rfl); (case hg => rfl); (case hr => exact zq3); intro gb389 hg w63 hbox hb; replace HO_27 := Aside0.mk (Kd.R_below (zq145) hb); replace HO_119 := Aside0.mk (Kd.R_below (zq146) hb); replace HO_175 := Aside0.mk (Kd.R_below (zq149) hb); have BK389 := Aside0.mk (hbox); have GW389 := Aside0.mk ((zq4 : w.heap.size ≤ gb389)); have GE389 := Aside0.mk ((zq4 : w.heap.size ≤ gb389)); replace HB := Aside0.mk (below_step (zq5) hb); clear hb hbox hg; have hcz64_0 : w63.cell? ⟨gb389, 0, none⟩ = some (.int .i64 0) := (blk_cell BK389.out 0).trans rfl; have hcz64_1 : w63.cell? ⟨gb389, 1, none⟩ = some (.int .i64 0) := (blk_cell BK389.out 1).trans rfl; have hfz64_0 := blk_frozen BK389.out 0; have hfz64_1 := blk_frozen BK389.out 1) | ((with_reducible refine gate_callee (f := 20) rfl ?_); refine goesL_ (some 192) rfl rfl Tryz.func20 (by kernel_rfl) rfl #[.slice A0 l0.length c0, .int .i64 (rd y382 x177_3), .int .i64 (rd y361 x121_1)] rfl (zq7) ?_; (with_reducible refine (dialtoneref12_Range.calls k3 _ _ l0 (rd y382 x177_3) (rd y361 x121_1) t390 t391 t392 _ ?side1 ?side2 A59.out).mono ?_); (case side1 => exact Kd.C_below HR0.out (zq150)); (case side2 => exact zq29); rintro e w65 ⟨rfl, hb⟩; refine ⟨_, rfl, ?_⟩; replace HO_27 := Aside0.mk (Kd.R_below (by (with_reducible repeat (first | apply Kd.R_alloc | apply Kd.R_drewN | apply Kd.R_drew)); exact (Kd.R_mono (Kd.R_far (p := ⟨gb389, 1, none⟩) (Kd.R_far (p := ⟨gb389, 0, none⟩) (Kd.R_types HO_27.out BK389.out (by decide)) (fun _ hk => hk.2) (.int .i64 t386)) (fun _ hk => hk.2) (.int .i64 t387)) (fun _ h_ => h_.1))) hb); replace HO_119 := Aside0.mk (Kd.R_below (by (with_reducible repeat (first | apply Kd.R_alloc | apply Kd.R_drewN | apply Kd.R_drew)); exact (Kd.R_mono (Kd.R_far (p := ⟨gb389, 1, none⟩) (Kd.R_far (p := ⟨gb389, 0, none⟩) (Kd.R_types HO_119.out BK389.out (by decide)) (fun _ hk => hk.2) (.int .i64 t386)) (fun _ hk => hk.2) (.int .i64 t387)) (fun _ h_ => h_.1))) hb); replace HO_175 := Aside0.mk (Kd.R_below (by (with_reducible repeat (first | apply Kd.R_alloc | apply Kd.R_drewN | apply Kd.R_drew)); exact (Kd.R_mono (Kd.R_far (p := ⟨gb389, 1, none⟩) (Kd.R_far (p := ⟨gb389, 0, none⟩) (Kd.R_types HO_175.out BK389.out (by decide)) (fun _ hk => hk.2) (.int .i64 t386)) (fun _ hk => hk.2) (.int .i64 t387)) (fun _ h_ => h_.1))) hb); replace BK389 := Aside0.mk (blk_below (g := gb389) (o := .cells #[.int .i64 t386, .int .i64 t387] 40 (0, 0)) (by (with_reducible repeat (first | refine blk_drewN ?_ _ | refine blk_drew ?_ | refine blk_alloc ?_ _)); refine blk_put (cs := #[.int .i64 t386, .int .i64 0]) ?_ 1 _ rfl; (with_reducible repeat (first | refine blk_drewN ?_ _ | refine blk_drew ?_ | refine blk_alloc ?_ _)); refine blk_put (cs := #[.int .i64 0, .int .i64 0]) ?_ 0 _ rfl; (with_reducible repeat (first | refine blk_drewN ?_ _ | refine blk_drew ?_ | refine blk_alloc ?_ _)); exact BK389.out) hb); replace HB := Aside0.mk (below_step (zq150) hb); (try clear hb); (try clear hb2); (try clear hk); (try clear hi)) | ((with_reducible refine gate_dst (N := 40) rfl ?_); refine box_event ?hg (N := 40) ?hd (cs := #[.int .i64 0, .int .i64 0]) (t := 40) ?hr ?_; (case hd => rfl); (case hg => rfl); (case hr => exact zq3); intro gb393 hg w66 hbox hb; replace HO_27 := Aside0.mk (Kd.R_below (zq145) hb); replace HO_119 := Aside0.mk (Kd.R_below (zq146) hb); replace HO_175 := Aside0.mk (Kd.R_below (zq149) hb); have BK393 := Aside0.mk (hbox); have GW393 := Aside0.mk ((zq151 : w.heap.size ≤ gb393)); have GE393 := Aside0.mk ((zq151 : w.heap.size ≤ gb393)); replace HB := Aside0.mk (below_step (zq150) hb); have NB389_393 := Aside0.mk ((by rw [hg]; exact Nat.ne_of_lt (blk_lt (g := gb389) (o := .cells #[.int .i64 t386, .int .i64 t387] 40 (0, 0)) (zq152)) : gb389 ≠ gb393)); have NB393_389 := Aside0.mk ((by rw [hg]; exact Nat.ne_of_gt (blk_lt (g := gb389) (o := .cells #[.int .i64 t386, .int .i64 t387] 40 (0, 0)) (zq152)) : gb393 ≠ gb389)); replace BK389 := Aside0.mk (blk_below (g := gb389) (o := .cells #[.int .i64 t386, .int .i64 t387] 40 (0, 0)) (zq152) hb); clear hb hbox hg; have hnb67 := NB393_389.out; have hnc67 := NB389_393.out; have hcz68_0 : w66.cell? ⟨gb393, 0, none⟩ = some (.int .i64 0) := (blk_cell BK393.out 0).trans rfl; have hcz68_1 : w66.cell? ⟨gb393, 1, none⟩ = some (.int .i64 0) := (blk_cell BK393.out 1).trans rfl; have hfz68_0 := blk_frozen BK393.out 0; have hfz68_1 := blk_frozen BK393.out 1; have hcz69_0 : w66.cell? ⟨gb389, 0, none⟩ = some (.int .i64 t386) := (blk_cell BK389.out 0).trans rfl; have hcz69_1 : w66.cell? ⟨gb389, 1, none⟩ = some (.int .i64 t387) := (blk_cell BK389.out 1).trans rfl; have hfz69_0 := blk_frozen BK389.out 0; have hfz69_1 := blk_frozen BK389.out 1))
        go_roundg k3
        case measure => have := HK1.out; have := HK2.out; have := HK3.out; omega
        case rel => exact ⟨(wrap64 (x177_3 + 1)), (zq1), H', ⟨by have := HK1.out; have := HK2.out; have := HK3.out; omega⟩, ⟨by (with_reducible repeat (first | apply Kd.R_alloc | apply Kd.R_drewN | apply Kd.R_drew)); exact Kd.R_mono (Kd.R_far (p := ⟨gb393, 1, none⟩) (Kd.R_far (p := ⟨gb393, 0, none⟩) (Kd.R_types HO_27.out BK393.out (by decide)) (fun _ hk => hk.2) (.int .i64 t390)) (fun _ hk => hk.2) (.int .i64 t391)) (fun _ hk => trivial)⟩, ⟨by (with_reducible repeat (first | apply Kd.R_alloc | apply Kd.R_drewN | apply Kd.R_drew)); exact Kd.R_mono (Kd.R_far (p := ⟨gb393, 1, none⟩) (Kd.R_far (p := ⟨gb393, 0, none⟩) (Kd.R_types HO_119.out BK393.out (by decide)) (fun _ hk => hk.2) (.int .i64 t390)) (fun _ hk => hk.2) (.int .i64 t391)) (fun _ hk => hk.1)⟩, ⟨by (with_reducible repeat (first | apply Kd.R_alloc | apply Kd.R_drewN | apply Kd.R_drew)); exact Kd.R_mono (Kd.R_far (p := ⟨gb393, 1, none⟩) (Kd.R_far (p := ⟨gb393, 0, none⟩) (Kd.R_types HO_175.out BK393.out (by decide)) (fun _ hk => hk.2) (.int .i64 t390)) (fun _ hk => hk.2) (.int .i64 t391)) (fun _ hk => hk.1)⟩, ⟨by repeat (first | (with_reducible first | exact HB.out | apply below_alloc | apply pw_below_drewN | apply below_drew1 | refine below_set ?_ GE389.out | refine below_set ?_ GE393.out) | exact HB.out)⟩⟩
       rw [if_neg c55] at H
       have c55b0 : decide (x177_3 < (y382.length : Int)) = false := decide_eq_false c55
       clear c55
       have H' := Aside0.mk H
       clear H
       obtain ⟨Ao70, co70, eo70⟩ := Kd.R_slice HO_27.out
       subst eo70
       go_wp2
       go_loopg [206] k3 (fun kq v206 w' => ∃ (x206_4 : Int), v206 = .int .i64 x206_4 ∧ Aside0 (dialtonelaw12_PlanMatchesReference_round.l3 kq l1 a4 a6 a5 l0 x27_2 (rd y361 x121_1) y361 (y361.length : Int) x121_1 x27_2 (x27_2.length : Int) x206_4 = some ()) ∧ Aside0 (kq ≤ k3) ∧ Aside0 (Kd.R Kd.string 9 w' w.heap.size (fun _ => True) (.slice Ao70 x27_2.length co70) x27_2) ∧ Aside0 (Kd.R (Kd.int .i64) 3 w' w.heap.size (fun _ => True) (.slice (some ad364) y361.length co19) y361) ∧ Aside0 (Kd.R Kd.string 9 w' w.heap.size (fun _ => True) (.slice Ao70 x27_2.length co70) x27_2) ∧ Aside0 (Below w.heap.size w w'))
       case atStart => exact ⟨(0), (zq1), H', ⟨Nat.le_refl _⟩, ⟨zq145⟩, ⟨by (with_reducible repeat (first | apply Kd.R_alloc | apply Kd.R_drewN | apply Kd.R_drew)); exact Kd.R_mono HO_119.out (fun _ hk => trivial)⟩, ⟨zq145⟩, ⟨zq5⟩⟩
       case round =>
        clear H'
        try clear c1
        try clear c2
        try clear p2
        try clear c3
        try clear p3
        try clear q3
        try clear hx3
        try clear c4
        try clear c5
        try clear c6
        try clear p6
        try clear c10
        try clear c10b0
        try clear c10b1
        try clear c11
        try clear c11b0
        try clear c11b1
        try clear c15
        try clear c16
        try clear c17
        try clear c18
        try clear c19
        try clear c20
        try clear c20b0
        try clear c21
        try clear c21b0
        try clear c22
        try clear c22b0
        try clear c26
        try clear c26b0
        try clear c27
        try clear c27b0
        try clear c28
        try clear c28b0
        try clear c31
        try clear c31b0
        try clear c31b1
        try clear c32
        try clear c32b0
        try clear c32b1
        try clear c34
        try clear c34b0
        try clear c34b1
        try clear c35
        try clear c35b0
        try clear c35b1
        try clear p36
        try clear q36
        try clear hx36
        try clear c37
        try clear c37b0
        try clear c37b1
        try clear c37b2
        try clear p38
        try clear q38
        try clear hx38
        try clear c39
        try clear c39b0
        try clear c39b1
        try clear c40
        try clear c40b0
        try clear c40b1
        try clear c41
        try clear c55
        try clear c55b0
        try clear c56
        try clear c56b0
        try clear c57
        try clear c57b0
        try clear c60
        try clear c60b0
        try clear c61
        try clear c61b0
        try clear c61b1
        try clear p64
        try clear c67
        try clear hcz64_0
        try clear hcz64_1
        try clear hcz68_0
        try clear hcz68_1
        try clear hcz69_0
        try clear hcz69_1
        try clear hfz64_0
        try clear hfz64_1
        try clear hfz68_0
        try clear hfz68_1
        try clear hfz69_0
        try clear hfz69_1
        try clear hx364_0
        try clear hx368_0
        try clear hx385_0
        try clear p2
        try clear p3
        try clear p36
        try clear p364
        try clear p368
        try clear p385
        try clear p6
        try clear q3
        try clear q36
        try clear q364
        try clear q368
        try clear q385
        obtain ⟨x206_4, rfl, HA, HK4, HO_27, HO_119, HO_204, HB⟩ := hrel
        cases gk with
        | zero => exact absurd HA.out (by simp [dialtonelaw12_PlanMatchesReference_round.l3])
        | succ k4 =>
         have H := HA.out
         clear HA
         simp only [dialtonelaw12_PlanMatchesReference_round.l3] at H
         by_cases c71 : x206_4 < (x27_2.length : Int)
         rotate_left
         ·rw [if_neg c71] at H
          have c71b0 : decide (x206_4 < (x27_2.length : Int)) = false := decide_eq_false c71
          clear c71
          have H' := Aside0.mk H
          clear H
          go_wp2
          go_roundg k4
          case measure => have := HK1.out; have := HK2.out; have := HK3.out; have := HK4.out; omega
          case rel => exact ⟨(x27_2), (wrap64 (x121_1 + 1)), (zq1), H', ⟨zq160⟩, ⟨zq145⟩, ⟨zq146⟩, ⟨zq5⟩⟩
         rw [if_pos c71] at H
         have c71b0 : decide (x206_4 < (x27_2.length : Int)) = true := decide_eq_true c71
         clear c71
         by_cases c72 : 0 ≤ x206_4
         rotate_left
         ·rw [if_neg c72] at H
          exact absurd H (by simp)
         rw [if_pos c72] at H
         have c72b0 : decide (0 ≤ x206_4) = true := decide_eq_true c72
         clear c72
         by_cases c73 : x206_4 < (x27_2.length : Int)
         rotate_left
         ·rw [if_neg c73] at H
          exact absurd H (by simp)
         rw [if_pos c73] at H
         have c73b0 : decide (x206_4 < (x27_2.length : Int)) = true := decide_eq_true c73
         clear c73
         replace H := Option.bind_eq_some_iff.mp H
         obtain ⟨⟨t395, t396, t397, t398, t399⟩, A740, H⟩ := H
         replace H : ((dialtoneref12_Read.f k4 l0 (rdOf ByteArray.empty x27_2 x206_4) (rd y361 x121_1)).bind fun bt401 => (if (!(t395 == bt401.1) || (!(t396 == bt401.2.1) || (!(t397 == bt401.2.2.1) || (!(t398 == bt401.2.2.2.1))))) = true then (none) else (if t399 = bt401.2.2.2.2 then (if 0 < (x27_2.length : Int) then ((plan_Same.f k4 l0 (rdOf ByteArray.empty x27_2 x206_4) (rdOf ByteArray.empty x27_2 0)).bind fun t408 => ((dialtoneref12_Same.f k4 l0 (rdOf ByteArray.empty x27_2 x206_4) (rdOf ByteArray.empty x27_2 0)).bind fun t410 => (if (t408 != t410) = true then (none) else (dialtonelaw12_PlanMatchesReference_round.l3 k4 l1 a4 a6 a5 l0 x27_2 (rd y361 x121_1) y361 (y361.length : Int) x121_1 x27_2 (x27_2.length : Int) (wrap64 (x206_4 + 1)))))) else (none)) else (none)))) = some () := H
         have A74 := Aside0.mk A740
         clear A740
         replace H := Option.bind_eq_some_iff.mp H
         obtain ⟨⟨t401, t402, t403, t404, t405⟩, A750, H⟩ := H
         replace H : (if (!(t395 == t401) || (!(t396 == t402) || (!(t397 == t403) || (!(t398 == t404))))) = true then (none) else (if t399 = t405 then (if 0 < (x27_2.length : Int) then ((plan_Same.f k4 l0 (rdOf ByteArray.empty x27_2 x206_4) (rdOf ByteArray.empty x27_2 0)).bind fun t408 => ((dialtoneref12_Same.f k4 l0 (rdOf ByteArray.empty x27_2 x206_4) (rdOf ByteArray.empty x27_2 0)).bind fun t410 => (if (t408 != t410) = true then (none) else (dialtonelaw12_PlanMatchesReference_round.l3 k4 l1 a4 a6 a5 l0 x27_2 (rd y361 x121_1) y361 (y361.length : Int) x121_1 x27_2 (x27_2.length : Int) (wrap64 (x206_4 + 1)))))) else (none)) else (none))) = some () := H
         have A75 := Aside0.mk A750
         clear A750
         by_cases c76 : (!(t395 == t401) || (!(t396 == t402) || (!(t397 == t403) || (!(t398 == t404))))) = true
         ·rw [if_pos c76] at H
          have c76b0 : (!(t395 == t401) || (!(t396 == t402) || (!(t397 == t403) || (!(t398 == t404))))) = true := c76
          clear c76
          exact absurd H (by simp)
         rw [if_neg c76] at H
         have c76b0 : (!(t395 == t401) || (!(t396 == t402) || (!(t397 == t403) || (!(t398 == t404))))) = false := by simpa using c76
         clear c76
         by_cases c77 : t399 = t405
         rotate_left
         ·rw [if_neg c77] at H
          have c77b0 : (t399 == t405) = false := beq_eq_false_iff_ne.mpr c77
          have c77b1 : (t399 != t405) = true := bne_iff_ne.mpr c77
          exact absurd H (by simp)
         rw [if_pos c77] at H
         have c77b0 : (t399 == t405) = true := beq_iff_eq.mpr c77
         have c77b1 : (t399 != t405) = false := bne_eq_false_iff_eq.mpr c77
         clear c77
         by_cases c78 : 0 < (x27_2.length : Int)
         rotate_left
         ·rw [if_neg c78] at H
          exact absurd H (by simp)
         rw [if_pos c78] at H
         have c78b0 : decide (0 < (x27_2.length : Int)) = true := decide_eq_true c78
         have c78b1 : decide (0 < x27_2.length) = true := decide_eq_true (by omega)
         clear c78
         replace H := Option.bind_eq_some_iff.mp H
         obtain ⟨t408, A790, H⟩ := H
         replace H : ((dialtoneref12_Same.f k4 l0 (rdOf ByteArray.empty x27_2 x206_4) (rdOf ByteArray.empty x27_2 0)).bind fun t410 => (if (t408 != t410) = true then (none) else (dialtonelaw12_PlanMatchesReference_round.l3 k4 l1 a4 a6 a5 l0 x27_2 (rd y361 x121_1) y361 (y361.length : Int) x121_1 x27_2 (x27_2.length : Int) (wrap64 (x206_4 + 1))))) = some () := H
         have A79 := Aside0.mk A790
         clear A790
         replace H := Option.bind_eq_some_iff.mp H
         obtain ⟨t410, A800, H⟩ := H
         replace H : (if (t408 != t410) = true then (none) else (dialtonelaw12_PlanMatchesReference_round.l3 k4 l1 a4 a6 a5 l0 x27_2 (rd y361 x121_1) y361 (y361.length : Int) x121_1 x27_2 (x27_2.length : Int) (wrap64 (x206_4 + 1)))) = some () := H
         have A80 := Aside0.mk A800
         clear A800
         by_cases c81 : (t408 != t410) = true
         ·rw [if_pos c81] at H
          exact absurd H (by simp)
         rw [if_neg c81] at H
         have c81b0 : (t408 != t410) = false := by simpa using c81
         (try (have c81b1 : decide (t408 = t410) = true := by simpa using c81))
         (try (have c81b2 : (t408 == t410) = true := by simpa using c81))
         clear c81
         have H' := Aside0.mk H
         clear H
         have p394 : 0 ≤ (x206_4 : Int) := of_decide_eq_true (zq18)
         have q394 : x206_4 < (x27_2.length : Int) := of_decide_eq_true (zq18)
         obtain ⟨ad394, e394, hx394_0⟩ := Kd.at_string (Kd.R_reads' HO_204.out).2.2 x206_4 p394 q394
         cases e394
         replace p394 := eq_true p394
         replace q394 := eq_true q394
         try go_wp2_with (first | ((with_reducible refine gate_callee (f := 21) rfl ?_); refine goesL_ (some 214) rfl rfl Tryz.func21 (by kernel_rfl) rfl #[.slice A0 l0.length c0, .string (rdOf ByteArray.empty x27_2 x206_4), .int .i64 (rd y361 x121_1)] rfl (zq7) ?_; (with_reducible refine (plan_Read.calls k4 _ _ l0 (rdOf ByteArray.empty x27_2 x206_4) (rd y361 x121_1) t395 t396 t397 t398 t399 _ ?side1 ?side2 A74.out).mono ?_); (case side1 => exact zq28); (case side2 => exact zq29); rintro e w82 ⟨rfl, hb⟩; refine ⟨_, rfl, ?_⟩; replace HO_27 := Aside0.mk (Kd.R_below (zq145) hb); replace HO_119 := Aside0.mk (Kd.R_below (zq146) hb); replace HO_204 := Aside0.mk (Kd.R_below (zq153) hb); replace HB := Aside0.mk (below_step (zq5) hb); (try clear hb); (try clear hb2); (try clear hk); (try clear hi)) | ((with_reducible refine gate_dst (N := 44) rfl ?_); refine box_event ?hg (N := 44) ?hd (cs := #[.int .i64 0, .int .i64 0, .int .i64 0, .int .i64 0]) (t := 44) ?hr ?_; (case hd => rfl); (case hg => rfl); (case hr => exact zq3); intro gb400 hg w83 hbox hb; replace HO_27 := Aside0.mk (Kd.R_below (zq145) hb); replace HO_119 := Aside0.mk (Kd.R_below (zq146) hb); replace HO_204 := Aside0.mk (Kd.R_below (zq153) hb); have BK400 := Aside0.mk (hbox); have GW400 := Aside0.mk ((zq4 : w.heap.size ≤ gb400)); have GE400 := Aside0.mk ((zq4 : w.heap.size ≤ gb400)); replace HB := Aside0.mk (below_step (zq5) hb); clear hb hbox hg; have hcz84_0 : w83.cell? ⟨gb400, 0, none⟩ = some (.int .i64 0) := (blk_cell BK400.out 0).trans rfl; have hcz84_1 : w83.cell? ⟨gb400, 1, none⟩ = some (.int .i64 0) := (blk_cell BK400.out 1).trans rfl; have hcz84_2 : w83.cell? ⟨gb400, 2, none⟩ = some (.int .i64 0) := (blk_cell BK400.out 2).trans rfl; have hcz84_3 : w83.cell? ⟨gb400, 3, none⟩ = some (.int .i64 0) := (blk_cell BK400.out 3).trans rfl; have hfz84_0 := blk_frozen BK400.out 0; have hfz84_1 := blk_frozen BK400.out 1; have hfz84_2 := blk_frozen BK400.out 2; have hfz84_3 := blk_frozen BK400.out 3) | ((with_reducible refine gate_callee (f := 22) rfl ?_); refine goesL_ (some 221) rfl rfl Tryz.func22 (by kernel_rfl) rfl #[.slice A0 l0.length c0, .string (rdOf ByteArray.empty x27_2 x206_4), .int .i64 (rd y361 x121_1)] rfl (zq7) ?_; (with_reducible refine (dialtoneref12_Read.calls k4 _ _ l0 (rdOf ByteArray.empty x27_2 x206_4) (rd y361 x121_1) t401 t402 t403 t404 t405 _ ?side1 ?side2 A75.out).mono ?_); (case side1 => exact Kd.C_below HR0.out (zq154)); (case side2 => exact zq29); rintro e w85 ⟨rfl, hb⟩; refine ⟨_, rfl, ?_⟩; replace HO_27 := Aside0.mk (Kd.R_below (by (with_reducible repeat (first | apply Kd.R_alloc | apply Kd.R_drewN | apply Kd.R_drew)); exact (Kd.R_mono (Kd.R_far (p := ⟨gb400, 3, none⟩) (Kd.R_far (p := ⟨gb400, 2, none⟩) (Kd.R_far (p := ⟨gb400, 1, none⟩) (Kd.R_far (p := ⟨gb400, 0, none⟩) (Kd.R_types HO_27.out BK400.out (by decide)) (fun _ hk => hk.2) (.int .i64 t395)) (fun _ hk => hk.2) (.int .i64 t396)) (fun _ hk => hk.2) (.int .i64 t397)) (fun _ hk => hk.2) (.int .i64 t398)) (fun _ h_ => h_.1))) hb); replace HO_119 := Aside0.mk (Kd.R_below (by (with_reducible repeat (first | apply Kd.R_alloc | apply Kd.R_drewN | apply Kd.R_drew)); exact (Kd.R_mono (Kd.R_far (p := ⟨gb400, 3, none⟩) (Kd.R_far (p := ⟨gb400, 2, none⟩) (Kd.R_far (p := ⟨gb400, 1, none⟩) (Kd.R_far (p := ⟨gb400, 0, none⟩) (Kd.R_types HO_119.out BK400.out (by decide)) (fun _ hk => hk.2) (.int .i64 t395)) (fun _ hk => hk.2) (.int .i64 t396)) (fun _ hk => hk.2) (.int .i64 t397)) (fun _ hk => hk.2) (.int .i64 t398)) (fun _ h_ => h_.1))) hb); replace HO_204 := Aside0.mk (Kd.R_below (by (with_reducible repeat (first | apply Kd.R_alloc | apply Kd.R_drewN | apply Kd.R_drew)); exact (Kd.R_mono (Kd.R_far (p := ⟨gb400, 3, none⟩) (Kd.R_far (p := ⟨gb400, 2, none⟩) (Kd.R_far (p := ⟨gb400, 1, none⟩) (Kd.R_far (p := ⟨gb400, 0, none⟩) (Kd.R_types HO_204.out BK400.out (by decide)) (fun _ hk => hk.2) (.int .i64 t395)) (fun _ hk => hk.2) (.int .i64 t396)) (fun _ hk => hk.2) (.int .i64 t397)) (fun _ hk => hk.2) (.int .i64 t398)) (fun _ h_ => h_.1))) hb); replace BK400 := Aside0.mk (blk_below (g := gb400) (o := .cells #[.int .i64 t395, .int .i64 t396, .int .i64 t397, .int .i64 t398] 44 (0, 0)) (by (with_reducible repeat (first | refine blk_drewN ?_ _ | refine blk_drew ?_ | refine blk_alloc ?_ _)); refine blk_put (cs := #[.int .i64 t395, .int .i64 t396, .int .i64 t397, .int .i64 0]) ?_ 3 _ rfl; (with_reducible repeat (first | refine blk_drewN ?_ _ | refine blk_drew ?_ | refine blk_alloc ?_ _)); refine blk_put (cs := #[.int .i64 t395, .int .i64 t396, .int .i64 0, .int .i64 0]) ?_ 2 _ rfl; (with_reducible repeat (first | refine blk_drewN ?_ _ | refine blk_drew ?_ | refine blk_alloc ?_ _)); refine blk_put (cs := #[.int .i64 t395, .int .i64 0, .int .i64 0, .int .i64 0]) ?_ 1 _ rfl; (with_reducible repeat (first | refine blk_drewN ?_ _ | refine blk_drew ?_ | refine blk_alloc ?_ _)); refine blk_put (cs := #[.int .i64 0, .int .i64 0, .int .i64 0, .int .i64 0]) ?_ 0 _ rfl; (with_reducible repeat (first | refine blk_drewN ?_ _ | refine blk_drew ?_ | refine blk_alloc ?_ _)); exact BK400.out) hb); replace HB := Aside0.mk (below_step (zq154) hb); (try clear hb); (try clear hb2); (try clear hk); (try clear hi)) | ((with_reducible refine gate_dst (N := 46) rfl ?_); refine box_event ?hg (N := 46) ?hd (cs := #[.int .i64 0, .int .i64 0, .int .i64 0, .int .i64 0]) (t := 44) ?hr ?_; (case hd => rfl); (case hg => rfl); (case hr => exact zq3); intro gb406 hg w86 hbox hb; replace HO_27 := Aside0.mk (Kd.R_below (zq145) hb); replace HO_119 := Aside0.mk (Kd.R_below (zq146) hb); replace HO_204 := Aside0.mk (Kd.R_below (zq153) hb); have BK406 := Aside0.mk (hbox); have GW406 := Aside0.mk ((zq155 : w.heap.size ≤ gb406)); have GE406 := Aside0.mk ((zq155 : w.heap.size ≤ gb406)); replace HB := Aside0.mk (below_step (zq154) hb); have NB400_406 := Aside0.mk ((by rw [hg]; exact Nat.ne_of_lt (blk_lt (g := gb400) (o := .cells #[.int .i64 t395, .int .i64 t396, .int .i64 t397, .int .i64 t398] 44 (0, 0)) (zq156)) : gb400 ≠ gb406)); have NB406_400 := Aside0.mk ((by rw [hg]; exact Nat.ne_of_gt (blk_lt (g := gb400) (o := .cells #[.int .i64 t395, .int .i64 t396, .int .i64 t397, .int .i64 t398] 44 (0, 0)) (zq156)) : gb406 ≠ gb400)); replace BK400 := Aside0.mk (blk_below (g := gb400) (o := .cells #[.int .i64 t395, .int .i64 t396, .int .i64 t397, .int .i64 t398] 44 (0, 0)) (zq156) hb); clear hb hbox hg; have hnb87 := NB406_400.out; have hnc87 := NB400_406.out; have hcz88_0 : w86.cell? ⟨gb406, 0, none⟩ = some (.int .i64 0) := (blk_cell BK406.out 0).trans rfl; have hcz88_1 : w86.cell? ⟨gb406, 1, none⟩ = some (.int .i64 0) := (blk_cell BK406.out 1).trans rfl; have hcz88_2 : w86.cell? ⟨gb406, 2, none⟩ = some (.int .i64 0) := (blk_cell BK406.out 2).trans rfl; have hcz88_3 : w86.cell? ⟨gb406, 3, none⟩ = some (.int .i64 0) := (blk_cell BK406.out 3).trans rfl; have hfz88_0 := blk_frozen BK406.out 0; have hfz88_1 := blk_frozen BK406.out 1; have hfz88_2 := blk_frozen BK406.out 2; have hfz88_3 := blk_frozen BK406.out 3))
         have n0_ : Aside0 (Kd.R Kd.string 9 ((((w86.setCell ⟨gb406, 0, none⟩ (.int .i64 t401)).setCell ⟨gb406, 1, none⟩ (.int .i64 t402)).setCell ⟨gb406, 2, none⟩ (.int .i64 t403)).setCell ⟨gb406, 3, none⟩ (.int .i64 t404)) w.heap.size (fun _ => True) (.slice (some ad394) x27_2.length co70) x27_2) := ⟨by (with_reducible repeat (first | apply Kd.R_alloc | apply Kd.R_drewN | apply Kd.R_drew)); exact Kd.R_mono (Kd.R_far (p := ⟨gb406, 3, none⟩) (Kd.R_far (p := ⟨gb406, 2, none⟩) (Kd.R_far (p := ⟨gb406, 1, none⟩) (Kd.R_far (p := ⟨gb406, 0, none⟩) (Kd.R_types HO_27.out BK406.out (by decide)) (fun _ hk => hk.2) (.int .i64 t401)) (fun _ hk => hk.2) (.int .i64 t402)) (fun _ hk => hk.2) (.int .i64 t403)) (fun _ hk => hk.2) (.int .i64 t404)) (fun _ hk => trivial)⟩
         have n1_ : Aside0 (Kd.R (Kd.int .i64) 3 ((((w86.setCell ⟨gb406, 0, none⟩ (.int .i64 t401)).setCell ⟨gb406, 1, none⟩ (.int .i64 t402)).setCell ⟨gb406, 2, none⟩ (.int .i64 t403)).setCell ⟨gb406, 3, none⟩ (.int .i64 t404)) w.heap.size (fun _ => True) (.slice (some ad364) y361.length co19) y361) := ⟨by (with_reducible repeat (first | apply Kd.R_alloc | apply Kd.R_drewN | apply Kd.R_drew)); exact Kd.R_mono (Kd.R_far (p := ⟨gb406, 3, none⟩) (Kd.R_far (p := ⟨gb406, 2, none⟩) (Kd.R_far (p := ⟨gb406, 1, none⟩) (Kd.R_far (p := ⟨gb406, 0, none⟩) (Kd.R_types HO_119.out BK406.out (by decide)) (fun _ hk => hk.2) (.int .i64 t401)) (fun _ hk => hk.2) (.int .i64 t402)) (fun _ hk => hk.2) (.int .i64 t403)) (fun _ hk => hk.2) (.int .i64 t404)) (fun _ hk => trivial)⟩
         have n2_ : Aside0 (Kd.R Kd.string 9 ((((w86.setCell ⟨gb406, 0, none⟩ (.int .i64 t401)).setCell ⟨gb406, 1, none⟩ (.int .i64 t402)).setCell ⟨gb406, 2, none⟩ (.int .i64 t403)).setCell ⟨gb406, 3, none⟩ (.int .i64 t404)) w.heap.size (fun _ => True) (.slice (some ad394) x27_2.length co70) x27_2) := ⟨by (with_reducible repeat (first | apply Kd.R_alloc | apply Kd.R_drewN | apply Kd.R_drew)); exact Kd.R_mono (Kd.R_far (p := ⟨gb406, 3, none⟩) (Kd.R_far (p := ⟨gb406, 2, none⟩) (Kd.R_far (p := ⟨gb406, 1, none⟩) (Kd.R_far (p := ⟨gb406, 0, none⟩) (Kd.R_types HO_204.out BK406.out (by decide)) (fun _ hk => hk.2) (.int .i64 t401)) (fun _ hk => hk.2) (.int .i64 t402)) (fun _ hk => hk.2) (.int .i64 t403)) (fun _ hk => hk.2) (.int .i64 t404)) (fun _ hk => trivial)⟩
         have n3_ : Aside0 (((((w86.setCell ⟨gb406, 0, none⟩ (.int .i64 t401)).setCell ⟨gb406, 1, none⟩ (.int .i64 t402)).setCell ⟨gb406, 2, none⟩ (.int .i64 t403)).setCell ⟨gb406, 3, none⟩ (.int .i64 t404)).heap[gb400]? = some (.cells #[.int .i64 t395, .int .i64 t396, .int .i64 t397, .int .i64 t398] 44 (0, 0))) := ⟨by (with_reducible repeat (first | refine blk_drewN ?_ _ | refine blk_drew ?_ | refine blk_alloc ?_ _)); refine blk_far ?_ NB400_406.out _; (with_reducible repeat (first | refine blk_drewN ?_ _ | refine blk_drew ?_ | refine blk_alloc ?_ _)); refine blk_far ?_ NB400_406.out _; (with_reducible repeat (first | refine blk_drewN ?_ _ | refine blk_drew ?_ | refine blk_alloc ?_ _)); refine blk_far ?_ NB400_406.out _; (with_reducible repeat (first | refine blk_drewN ?_ _ | refine blk_drew ?_ | refine blk_alloc ?_ _)); refine blk_far ?_ NB400_406.out _; (with_reducible repeat (first | refine blk_drewN ?_ _ | refine blk_drew ?_ | refine blk_alloc ?_ _)); exact BK400.out⟩
         have n4_ : Aside0 (((((w86.setCell ⟨gb406, 0, none⟩ (.int .i64 t401)).setCell ⟨gb406, 1, none⟩ (.int .i64 t402)).setCell ⟨gb406, 2, none⟩ (.int .i64 t403)).setCell ⟨gb406, 3, none⟩ (.int .i64 t404)).heap[gb406]? = some (.cells #[.int .i64 t401, .int .i64 t402, .int .i64 t403, .int .i64 t404] 44 (0, 0))) := ⟨by (with_reducible repeat (first | refine blk_drewN ?_ _ | refine blk_drew ?_ | refine blk_alloc ?_ _)); refine blk_put (cs := #[.int .i64 t401, .int .i64 t402, .int .i64 t403, .int .i64 0]) ?_ 3 _ rfl; (with_reducible repeat (first | refine blk_drewN ?_ _ | refine blk_drew ?_ | refine blk_alloc ?_ _)); refine blk_put (cs := #[.int .i64 t401, .int .i64 t402, .int .i64 0, .int .i64 0]) ?_ 2 _ rfl; (with_reducible repeat (first | refine blk_drewN ?_ _ | refine blk_drew ?_ | refine blk_alloc ?_ _)); refine blk_put (cs := #[.int .i64 t401, .int .i64 0, .int .i64 0, .int .i64 0]) ?_ 1 _ rfl; (with_reducible repeat (first | refine blk_drewN ?_ _ | refine blk_drew ?_ | refine blk_alloc ?_ _)); refine blk_put (cs := #[.int .i64 0, .int .i64 0, .int .i64 0, .int .i64 0]) ?_ 0 _ rfl; (with_reducible repeat (first | refine blk_drewN ?_ _ | refine blk_drew ?_ | refine blk_alloc ?_ _)); exact BK406.out⟩
         have n5_ : Aside0 (Below w.heap.size w ((((w86.setCell ⟨gb406, 0, none⟩ (.int .i64 t401)).setCell ⟨gb406, 1, none⟩ (.int .i64 t402)).setCell ⟨gb406, 2, none⟩ (.int .i64 t403)).setCell ⟨gb406, 3, none⟩ (.int .i64 t404))) := ⟨zq158⟩
         (try clear HO_27)
         (try clear HO_119)
         (try clear HO_204)
         (try clear BK400)
         (try clear BK406)
         (try clear HB)
         generalize ((((w86.setCell ⟨gb406, 0, none⟩ (.int .i64 t401)).setCell ⟨gb406, 1, none⟩ (.int .i64 t402)).setCell ⟨gb406, 2, none⟩ (.int .i64 t403)).setCell ⟨gb406, 3, none⟩ (.int .i64 t404)) = w89 at n0_ n1_ n2_ n3_ n4_ n5_ ⊢
         have HO_27 := n0_
         have HO_119 := n1_
         have HO_204 := n2_
         have BK400 := n3_
         have BK406 := n4_
         have HB := n5_
         clear n0_ n1_ n2_ n3_ n4_ n5_
         replace HO_27 := Aside0.mk (Kd.R_drew HO_27.out)
         replace HO_119 := Aside0.mk (Kd.R_drew HO_119.out)
         replace HO_204 := Aside0.mk (Kd.R_drew HO_204.out)
         replace BK400 := Aside0.mk (blk_drew BK400.out)
         replace BK406 := Aside0.mk (blk_drew BK406.out)
         replace HB := Aside0.mk (below_drew1 HB.out)
         have p407 : 0 ≤ (0 : Int) := (by omega)
         have q407 : 0 < (x27_2.length : Int) := of_decide_eq_true (zq18)
         obtain ⟨ad407, e407, hx407_0⟩ := Kd.at_string (Kd.R_reads' HO_27.out).2.2 0 p407 q407
         obtain rfl : ad394 = ad407 := (by injection e407)
         have qi407 : (0 < x27_2.length) = True := eq_true (by omega)
         (try rw [show ((0 : Int)).toNat = 0 from rfl] at hx407_0)
         (try rw [Addr.add_zero'] at hx407_0)
         replace p407 := eq_true p407
         replace q407 := eq_true q407
         have p409 : 0 ≤ (0 : Int) := (by omega)
         have q409 : 0 < (x27_2.length : Int) := of_decide_eq_true (zq18)
         obtain ⟨ad409, e409, hx409_0⟩ := Kd.at_string (Kd.R_reads' HO_27.out).2.2 0 p409 q409
         obtain rfl : ad394 = ad409 := (by injection e409)
         have qi409 : (0 < x27_2.length) = True := eq_true (by omega)
         (try rw [show ((0 : Int)).toNat = 0 from rfl] at hx409_0)
         (try rw [Addr.add_zero'] at hx409_0)
         replace p409 := eq_true p409
         replace q409 := eq_true q409
         refine start_ (n := 23) (S := fun w' => w'.cell? ⟨gb400, 0, none⟩ = some (.int .i64 t395) ∧ w'.cell? ⟨gb400, 1, none⟩ = some (.int .i64 t396) ∧ w'.cell? ⟨gb400, 2, none⟩ = some (.int .i64 t397) ∧ w'.cell? ⟨gb400, 3, none⟩ = some (.int .i64 t398) ∧ w'.cell? ⟨gb406, 0, none⟩ = some (.int .i64 t401) ∧ w'.cell? ⟨gb406, 1, none⟩ = some (.int .i64 t402) ∧ w'.cell? ⟨gb406, 2, none⟩ = some (.int .i64 t403) ∧ w'.cell? ⟨gb406, 3, none⟩ = some (.int .i64 t404) ∧ w'.cell? ad394 = some (.string (rdOf ByteArray.empty x27_2 0)) ∧ w'.cell? ad394 = some (.string (rdOf ByteArray.empty x27_2 0))) (ds := []) (bm 23 0) (by kernel_rfl) rfl rfl ⟨(blk_cell BK400.out 0).trans rfl, (blk_cell BK400.out 1).trans rfl, (blk_cell BK400.out 2).trans rfl, (blk_cell BK400.out 3).trans rfl, (blk_cell BK406.out 0).trans rfl, (blk_cell BK406.out 1).trans rfl, (blk_cell BK406.out 2).trans rfl, (blk_cell BK406.out 3).trans rfl, hx407_0, hx409_0⟩ (fun hHeld => ?_); refine with_tabW dialtonelaw12_PlanMatchesReference_round.tab41 dialtonelaw12_PlanMatchesReference_round.bits41 (fun HT_ HW_ => ?_)
         generalize w89.drew = w90 at HO_27 HO_119 HO_204 BK400 BK406 HB hx407_0 hx409_0 hHeld ⊢
         refine tz 0 (some 224) (bm 23 1) HT_ HW_ hHeld ?_
         refine tz 1 (some 225) (bm 23 3) HT_ HW_ hHeld ?_
         refine pz 2 (some 226) (bm 23 7) HT_ ?_
         refine pz 3 (some 227) (bm 23 15) HT_ ?_
         refine pz 4 (some 228) (bm 23 31) HT_ ?_
         refine pz 5 (some 229) (bm 23 63) HT_ ?_
         refine pz 6 (some 230) (bm 23 127) HT_ ?_
         refine pz 7 (some 231) (bm 23 255) HT_ ?_
         refine pz 8 (some 232) (bm 23 511) HT_ ?_
         refine pz 9 (some 233) (bm 23 1023) HT_ ?_
         refine pz 10 (some 234) (bm 23 2047) HT_ ?_
         refine pz 11 (some 235) (bm 23 4095) HT_ ?_
         refine pz 12 (some 236) (bm 23 8191) HT_ ?_
         refine pz 15 (some 239) (bm 23 40959) HT_ ?_
         refine pz 16 (some 240) (bm 23 106495) HT_ ?_
         refine pz 17 (some 241) (bm 23 237567) HT_ ?_
         refine pz 18 (some 242) (bm 23 499711) HT_ ?_
         refine tz 13 (some 237) (bm 23 507903) HT_ HW_ hHeld ?_
         refine tz 19 (some 243) (bm 23 1032191) HT_ HW_ hHeld ?_
         refine one_ (i := 14) (N := some 238) (bm 23 1048575) rfl rfl (one_of HT_.out (by kernel_rfl)) (by decide) (fun K hK => ?_)
         refine goes_ Tryz.func23 (by kernel_rfl) rfl #[.slice A0 l0.length c0, .string (rdOf ByteArray.empty x27_2 x206_4), .string (rdOf ByteArray.empty x27_2 0)] (by rfl) rfl rfl (zq7) ?_
         with_reducible refine (plan_Same.calls k4 _ _ l0 (rdOf ByteArray.empty x27_2 x206_4) (rdOf ByteArray.empty x27_2 0) t408 _ ?side1 ?side2 A79.out).mono ?_
         (case side1 => exact zq28)
         (case side2 => exact zq29)
         rintro e w91 ⟨rfl, hb⟩
         have HS8_ := (hb.cell (World.block_lt_of_cell? _ _ (hHeld.2.2.2.2.2.2.2.2.1))).trans (hHeld.2.2.2.2.2.2.2.2.1)
         have HS9_ := (hb.cell (World.block_lt_of_cell? _ _ (hHeld.2.2.2.2.2.2.2.2.2))).trans (hHeld.2.2.2.2.2.2.2.2.2)
         refine ⟨_, rfl, ?_⟩
         replace HO_27 := Aside0.mk (Kd.R_below (zq145) hb)
         replace HO_119 := Aside0.mk (Kd.R_below (zq146) hb)
         replace HO_204 := Aside0.mk (Kd.R_below (zq153) hb)
         replace BK400 := Aside0.mk (blk_below (g := gb400) (o := .cells #[.int .i64 t395, .int .i64 t396, .int .i64 t397, .int .i64 t398] 44 (0, 0)) (zq156) hb)
         replace BK406 := Aside0.mk (blk_below (g := gb406) (o := .cells #[.int .i64 t401, .int .i64 t402, .int .i64 t403, .int .i64 t404] 44 (0, 0)) (zq157) hb)
         replace HB := Aside0.mk (below_step (zq158) hb)
         (try clear hb)
         (try clear hb2)
         (try clear hk)
         (try clear hi)
         refine hK.out _ _ ⟨(blk_cell BK400.out 0).trans rfl, (blk_cell BK400.out 1).trans rfl, (blk_cell BK400.out 2).trans rfl, (blk_cell BK400.out 3).trans rfl, (blk_cell BK406.out 0).trans rfl, (blk_cell BK406.out 1).trans rfl, (blk_cell BK406.out 2).trans rfl, (blk_cell BK406.out 3).trans rfl, HS8_, HS9_⟩ (fun hHeld => ?_)
         clear hK K
         refine nz (some 238) ?_
         refine one_ (i := 20) (N := some 244) (bm 23 2097151) rfl rfl (one_of HT_.out (by kernel_rfl)) (by decide) (fun K hK => ?_)
         refine goes_ Tryz.func24 (by kernel_rfl) rfl #[.slice A0 l0.length c0, .string (rdOf ByteArray.empty x27_2 x206_4), .string (rdOf ByteArray.empty x27_2 0)] (by rfl) rfl rfl (zq7) ?_
         with_reducible refine (dialtoneref12_Same.calls k4 _ _ l0 (rdOf ByteArray.empty x27_2 x206_4) (rdOf ByteArray.empty x27_2 0) t410 _ ?side1 ?side2 A80.out).mono ?_
         (case side1 => exact zq28)
         (case side2 => exact zq29)
         rintro e w92 ⟨rfl, hb⟩
         have HS8_ := (hb.cell (World.block_lt_of_cell? _ _ (hHeld.2.2.2.2.2.2.2.2.1))).trans (hHeld.2.2.2.2.2.2.2.2.1)
         have HS9_ := (hb.cell (World.block_lt_of_cell? _ _ (hHeld.2.2.2.2.2.2.2.2.2))).trans (hHeld.2.2.2.2.2.2.2.2.2)
         refine ⟨_, rfl, ?_⟩
         replace HO_27 := Aside0.mk (Kd.R_below (zq145) hb)
         replace HO_119 := Aside0.mk (Kd.R_below (zq146) hb)
         replace HO_204 := Aside0.mk (Kd.R_below (zq153) hb)
         replace BK400 := Aside0.mk (blk_below (g := gb400) (o := .cells #[.int .i64 t395, .int .i64 t396, .int .i64 t397, .int .i64 t398] 44 (0, 0)) (zq156) hb)
         replace BK406 := Aside0.mk (blk_below (g := gb406) (o := .cells #[.int .i64 t401, .int .i64 t402, .int .i64 t403, .int .i64 t404] 44 (0, 0)) (zq157) hb)
         replace HB := Aside0.mk (below_step (zq158) hb)
         (try clear hb)
         (try clear hb2)
         (try clear hk)
         (try clear hi)
         refine hK.out _ _ ⟨(blk_cell BK400.out 0).trans rfl, (blk_cell BK400.out 1).trans rfl, (blk_cell BK400.out 2).trans rfl, (blk_cell BK400.out 3).trans rfl, (blk_cell BK406.out 0).trans rfl, (blk_cell BK406.out 1).trans rfl, (blk_cell BK406.out 2).trans rfl, (blk_cell BK406.out 3).trans rfl, HS8_, HS9_⟩ (fun hHeld => ?_)
         clear hK K
         refine nz (some 244) ?_
         refine pz 21 (some 245) (bm 23 4194303) HT_ ?_
         refine pz 22 (some 246) (bm 23 8388607) HT_ ?_
         refine done_ (done_of HT_.out (by kernel_rfl)) ?_
         try go_wp2
         go_roundg k4
         case measure => have := HK1.out; have := HK2.out; have := HK3.out; have := HK4.out; omega
         case rel => exact ⟨(wrap64 (x206_4 + 1)), (zq1), H', ⟨zq160⟩, ⟨zq145⟩, ⟨zq146⟩, ⟨zq153⟩, ⟨zq158⟩⟩
end Go.Proofs.YtlmfoblgheepoaaGreatDoor.Pl
end
section
open Go.Proofs.YtlmfoblgheepoaaGreatDoor.Z
namespace Go.Proofs.YtlmfoblgheepoaaGreatDoor.Pl
open Go.RowKit Go.Proofs.YtlmfoblgheepoaaGreatDoorW.PrintWords Go.Proofs.YtlmfoblgheepoaaGreatDoorW.PrintLast Go.Proofs.YtlmfoblgheepoaaGreatDoorW.PrintMore
attribute [local go_sem] max2_int min2_int max_two min_two max_three min_three max_four min_four
set_option linter.unusedVariables false
set_option linter.unusedSimpArgs false
attribute [local go_sem high] eqA40 eqA44
def dialtonelaw12_PlanMatchesReference.l1 : Nat → List Int → ByteArray → Int → Int → Int → Bool → Int → List (List (S29)) → Int → Int → Option (Bool)
 | 0, _, _, _, _, _, _, _, _, _, _ => none
 | k + 1, x3, x4, x5, x7, x8, x19, x24, x101, x102, x103 => if x103 < x102 then (if 0 ≤ x103 then (if x103 < (x101.length : Int) then ((dialtonelaw12_PlanMatchesReference_round.f k (rd_L3 x101 x103) x3 x4 x5 x7 x24 x8).bind fun _ => (dialtonelaw12_PlanMatchesReference.l1 k x3 x4 x5 x7 x8 x19 x24 x101 x102 (wrap64 (x103 + 1)))) else (none)) else (none)) else (some x19)
def dialtonelaw12_PlanMatchesReference.j1 : Nat → List Int → ByteArray → Int → Int → Int → Int → Bool → List (S29) → List (S29) → Int → Int → Int → Option (Bool)
 | 0, _, _, _, _, _, _, _, _, _, _, _, _ => none
 | k + 1, x3, x4, x5, x6, x7, x8, x19, x20, x21, x357000, x357001, x357002 => (dialtoneref12_Number.f k x20 x6 x7).bind fun t366 => ((dialtoneref12_Bent.f k x20 x357000 x357001 x357002).bind fun t367 => ((some (([x20, t367, x21] : List (List (S29))) : List (List (S29)))).bind fun y370 => (dialtonelaw12_PlanMatchesReference.l1 k x3 x4 x5 x7 x8 x19 t366 y370 (y370.length : Int) 0)))
def dialtonelaw12_PlanMatchesReference.l0 : Nat → List (S29) → List Int → ByteArray → Int → Int → Int → Int → Bool → List (S29) → List (S29) → Int → Int → Int → Int → Option (Bool)
 | 0, _, _, _, _, _, _, _, _, _, _, _, _, _, _ => none
 | k + 1, x2, x3, x4, x5, x6, x7, x8, x19, x20, x21, x22, x357000, x357001, x357002 => if x22 < (x2.length : Int) then (if x22 < 4 then (if 0 ≤ x22 then (if 0 ≤ (mn (((rd_T29 x2 x22).f0).size : Int) 6) then (if (mn (((rd_T29 x2 x22).f0).size : Int) 6) ≤ (((rd_T29 x2 x22).f0).size : Int) then (if 0 ≤ (mn (((rd_T29 x2 x22).f1).size : Int) 6) then (if (mn (((rd_T29 x2 x22).f1).size : Int) 6) ≤ (((rd_T29 x2 x22).f1).size : Int) then (if x21.length < 3518437208883 then (dialtonelaw12_PlanMatchesReference.l0 k x2 x3 x4 x5 x6 x7 x8 x19 x20 (x21 ++ [(⟨((rd_T29 x2 x22).f0).extract 0 ((mn (((rd_T29 x2 x22).f0).size : Int) 6) : Int).toNat, ((rd_T29 x2 x22).f1).extract 0 ((mn (((rd_T29 x2 x22).f1).size : Int) 6) : Int).toNat, (rd_T29 x2 x22).f2⟩ : S29)]) (wrap64 (x22 + 1)) x357000 x357001 x357002) else (none)) else (none)) else (none)) else (none)) else (none)) else (none)) else (dialtonelaw12_PlanMatchesReference.j1 k x3 x4 x5 x6 x7 x8 x19 x20 x21 x357000 x357001 x357002)) else (dialtonelaw12_PlanMatchesReference.j1 k x3 x4 x5 x6 x7 x8 x19 x20 x21 x357000 x357001 x357002)
def dialtonelaw12_PlanMatchesReference.f (k : Nat) (l0 : List (S23)) (a1_0 : Int) (a1_1 : Int) (a1_2 : Int) (l2 : List (S29)) (l3 : List Int) (a4 : ByteArray) (a5 : Int) (a6 : Int) (a7 : Int) (a8 : Int) : Option (Bool) := (dialtonelaw12_sane.f k).bind fun t357 => (if t357 = true then ((dialtoneref12_Made.f k l0).bind fun t358 => (dialtonelaw12_PlanMatchesReference.l0 k l2 l3 a4 a5 a6 a7 a8 t357 t358 ([] : List (S29)) 0 a1_0 a1_1 a1_2)) else (none))
def dialtonelaw12_PlanMatchesReference.T10 : Bool × List (List Nat × List Nat) := (true, [([], []), ([], []), ([1], [1]), ([], []), ([3], [3]), ([4], [4]), ([5], [5]), ([2, 6], [2, 6]), ([], []), ([8], [8]), ([], []), ([10], [10]), ([11], [11]), ([12], [12]), ([9, 13], [9, 13]), ([], []), ([15], [15]), ([7, 14, 16], [7, 14, 16]), ([17], [17]), ([0, 18], [0, 18]), ([19, 19, 0, 1, 2, 3, 4, 5, 6, 7, 8, 9, 10, 11, 12, 13, 14, 15, 16, 17, 18, 19], [0, 19])])
def dialtonelaw12_PlanMatchesReference.B10 : List Nat := [0, 0, 2, 0, 8, 24, 56, 126, 0, 256, 0, 1024, 3072, 7168, 16128, 0, 32768, 131070, 262142, 524287, 1048575]
theorem dialtonelaw12_PlanMatchesReference.tab10 : rtab .any (opsOf Tryz.f3 10) = dialtonelaw12_PlanMatchesReference.T10 := by kernel_rfl
theorem dialtonelaw12_PlanMatchesReference.bits10 : waitsOk dialtonelaw12_PlanMatchesReference.T10.2 dialtonelaw12_PlanMatchesReference.B10 = true := by kernel_rfl
set_option maxHeartbeats 8000000 in
set_option maxRecDepth 100000 in
theorem dialtonelaw12_PlanMatchesReference.calls (k : Nat) (A0 : Option Addr) (c0 : Nat) (l0 : List (S23)) (a1_0 : Int) (a1_1 : Int) (a1_2 : Int) (A2 : Option Addr) (c2 : Nat) (l2 : List (S29)) (A3 : Option Addr) (c3 : Nat) (l3 : List Int) (a4 : ByteArray) (a5 : Int) (a6 : Int) (a7 : Int) (a8 : Int) (r : Bool) (w : World) (hr0 : Kd.C k23 w A0 l0.length l0) (hc0 : l0.length ≤ c0) (hr2 : Kd.C k29 w A2 l2.length l2) (hc2 : l2.length ≤ c2) (hr3 : Kd.C (Kd.int .i64) w A3 l3.length l3) (hc3 : l3.length ≤ c3) (hG : Glb w) (h : dialtonelaw12_PlanMatchesReference.f k l0 a1_0 a1_1 a1_2 l2 l3 a4 a5 a6 a7 a8 = some r) :
 Calls Tryz.prog 3 #[.slice A0 l0.length c0, .agg #[.int .i64 a1_0, .int .i64 a1_1, .int .i64 a1_2], .slice A2 l2.length c2, .slice A3 l3.length c3, .string a4, .int .i64 a5, .int .i64 a6, .int .i64 a7, .int .i64 a8] w fun e w' => e = .returned (.bool r) ∧ Below w.heap.size w w' := by
 have HGLB := Aside0.mk hG
 clear hG
 have hu23 := Tryz.underlying23
 have hu29 := Tryz.underlying29
 have hu40 := Tryz.underlying40
 have hu44 := Tryz.underlying44
 have HR0 := Aside0.mk hr0
 have HC0 := Aside0.mk hc0
 clear hr0 hc0
 have HR2 := Aside0.mk hr2
 have HC2 := Aside0.mk hc2
 clear hr2 hc2
 have HR3 := Aside0.mk hr3
 have HC3 := Aside0.mk hc3
 clear hr3 hc3
 have HB := Aside0.mk (Below.refl w.heap.size w)
 have H : ((dialtonelaw12_sane.f k).bind fun t357 => (if t357 = true then ((dialtoneref12_Made.f k l0).bind fun t358 => (dialtonelaw12_PlanMatchesReference.l0 k l2 l3 a4 a5 a6 a7 a8 t357 t358 ([] : List (S29)) 0 a1_0 a1_1 a1_2)) else (none))) = some r := h
 clear h
 replace H := Option.bind_eq_some_iff.mp H
 obtain ⟨t357, A100, H⟩ := H
 try dsimp only at H
 have A10 := Aside0.mk A100
 clear A100
 by_cases c11 : t357 = true
 rotate_left
 ·replace c11 := Bool.eq_false_iff.mpr c11
  subst c11
  rw [if_neg (show ¬ (false = true) by decide)] at H
  exact absurd H (by simp)
 subst c11
 rw [if_pos rfl] at H
 replace H := Option.bind_eq_some_iff.mp H
 obtain ⟨t358, A120, H⟩ := H
 try dsimp only at H
 have A12 := Aside0.mk A120
 clear A120
 have HC13 := Aside0.mk H
 clear H
 go_enter Tryz.func3, Tryz.ntmps3
 go_upto_block 0 with (first | ((with_reducible refine gate_dst (N := 10) rfl ?_); refine box_event ?hg (N := 10) ?hd (cs := #[.int .i64 a1_0, .int .i64 a1_1, .int .i64 a1_2]) (t := 23) ?hr ?_; (case hd => rfl); (case hg => rfl); (case hr => exact zq3); intro gb356 hg w14 hbox hb; have BK356 := Aside0.mk (hbox); have GW356 := Aside0.mk ((zq4 : w.heap.size ≤ gb356)); have GE356 := Aside0.mk ((zq4 : w.heap.size ≤ gb356)); replace HB := Aside0.mk (below_step (zq5) hb); clear hb hbox hg) | ((with_reducible refine gate_callee (f := 11) rfl ?_); refine goesL_ (some 48) rfl rfl Tryz.func11 (by kernel_rfl) rfl #[] rfl (zq7) ?_; (with_reducible refine (dialtonelaw12_sane.calls k  true _ ?side1 A10.out).mono ?_); (case side1 => exact Glb.below HGLB.out (zq161)); rintro e w15 ⟨rfl, hb⟩; refine ⟨_, rfl, ?_⟩; replace BK356 := Aside0.mk (blk_below (g := gb356) (o := .cells #[.int .i64 a1_0, .int .i64 a1_1, .int .i64 a1_2] 23 (0, 0)) (zq162) hb); replace HB := Aside0.mk (below_step (zq161) hb); (try clear hb); (try clear hb2); (try clear hk); (try clear hi)) | ((with_reducible refine gate_callee (f := 12) rfl ?_); refine goesL_ (some 52) rfl rfl Tryz.func12 (by kernel_rfl) rfl #[.slice A0 l0.length c0] rfl (zq7) ?_; (with_reducible refine (dialtoneref12_Made.calls k _ _ l0 t358 _ ?side1 ?side2 A12.out).mono ?_); (case side1 => exact zq28); (case side2 => exact zq29); rintro e w16 ⟨v359, rfl, ho0, hb⟩; refine ⟨_, rfl, ?_⟩; have HO360 := Aside0.mk (Kd.R_lower ho0 (below_size (zq161))); replace BK356 := Aside0.mk (blk_below (g := gb356) (o := .cells #[.int .i64 a1_0, .int .i64 a1_1, .int .i64 a1_2] 23 (0, 0)) (zq162) hb); replace HB := Aside0.mk (below_step (zq161) hb); (try clear hb); (try clear hb2); (try clear hk); (try clear hi); (try clear ho0)))
 (try simp only [Act.put, List.setIfInBounds_toArray, List.set_cons_zero, List.set_cons_succ])
 go_cut [21] (fun v21 wc => ∃ (kq : Nat) (x21_12 : List (S29)), Aside0 (dialtonelaw12_PlanMatchesReference.j1 kq l3 a4 a5 a6 a7 a8 true t358 x21_12 a1_0 a1_1 a1_2 = some r) ∧ Aside0 (kq ≤ k) ∧ Aside0 (Kd.R k29 29 wc w.heap.size (fun k_ => some k_ ≠ (v21 : Value).ownBlock) v359 t358) ∧ Aside0 (Kd.R k29 29 wc w.heap.size (fun k_ => some k_ ≠ (v359 : Value).ownBlock) v21 x21_12) ∧ Aside0 (wc.heap[gb356]? = some (.cells #[.int .i64 a1_0, .int .i64 a1_1, .int .i64 a1_2] 23 (0, 0))) ∧ Aside0 (Below w.heap.size w wc))
 case first =>
  have H := HC13.out
  clear HC13
  have H' := Aside0.mk H
  clear H
  go_wp2
  go_loopg [21, 22] k (fun kq v21 v22 w' => ∃ (x21_1 : List (S29)) (x22_1 : Int), v22 = .int .i64 x22_1 ∧ Aside0 (dialtonelaw12_PlanMatchesReference.l0 kq l2 l3 a4 a5 a6 a7 a8 true t358 x21_1 x22_1 a1_0 a1_1 a1_2 = some r) ∧ Aside0 (kq ≤ k) ∧ Aside0 (Kd.R k29 29 w' w.heap.size (fun k_ => some k_ ≠ (v21 : Value).ownBlock) v359 t358) ∧ Aside0 (Kd.R k29 29 w' w.heap.size (fun k_ => some k_ ≠ (v359 : Value).ownBlock) v21 x21_1) ∧ Aside0 (w'.heap[gb356]? = some (.cells #[.int .i64 a1_0, .int .i64 a1_1, .int .i64 a1_2] 23 (0, 0))) ∧ Aside0 (Below w.heap.size w w'))
  case atStart => exact ⟨(([] : List (S29))), (0), (zq1), H', ⟨Nat.le_refl _⟩, ⟨by (with_reducible repeat (first | apply Kd.R_alloc | apply Kd.R_drewN | apply Kd.R_drew)); exact Kd.R_mono HO360.out (fun _ hk => (by simp [Value.ownBlock]))⟩, ⟨zq107⟩, ⟨zq162⟩, ⟨zq161⟩⟩
  case round =>
   clear H'
   try clear c1
   try clear c2
   try clear p2
   try clear c3
   try clear p6
   try clear c11
   try clear c12
   obtain ⟨x21_1, x22_1, rfl, HA, HK1, HO_20, HO_21, BK356, HB⟩ := hrel
   cases gk with
   | zero => exact absurd HA.out (by simp [dialtonelaw12_PlanMatchesReference.l0])
   | succ k1 =>
    have H := HA.out
    clear HA
    simp only [dialtonelaw12_PlanMatchesReference.l0] at H
    by_cases c17 : x22_1 < (l2.length : Int)
    rotate_left
    ·rw [if_neg c17] at H
     have c17b0 : decide (x22_1 < (l2.length : Int)) = false := decide_eq_false c17
     clear c17
     (first | rw [c17b0] | (simp only [i64_w, i32_w]; rw [c17b0]) | skip)
     have H' := Aside0.mk H
     clear H
     go_wp2
     go_meet
     case rel => exact ⟨_, (x21_1), H', ⟨zq108⟩, ⟨zq163⟩, ⟨zq164⟩, ⟨zq162⟩, ⟨zq161⟩⟩
    rw [if_pos c17] at H
    have c17b0 : decide (x22_1 < (l2.length : Int)) = true := decide_eq_true c17
    clear c17
    (first | rw [c17b0] | (simp only [i64_w, i32_w]; rw [c17b0]) | skip)
    by_cases c18 : x22_1 < 4
    rotate_left
    ·rw [if_neg c18] at H
     have c18b0 : decide (x22_1 < 4) = false := decide_eq_false c18
     clear c18
     have H' := Aside0.mk H
     clear H
     go_wp2
     go_meet
     case rel => exact ⟨_, (x21_1), H', ⟨zq108⟩, ⟨zq163⟩, ⟨zq164⟩, ⟨zq162⟩, ⟨zq161⟩⟩
    rw [if_pos c18] at H
    have c18b0 : decide (x22_1 < 4) = true := decide_eq_true c18
    clear c18
    by_cases c19 : 0 ≤ x22_1
    rotate_left
    ·rw [if_neg c19] at H
     exact absurd H (by simp)
    rw [if_pos c19] at H
    have c19b0 : decide (0 ≤ x22_1) = true := decide_eq_true c19
    clear c19
    obtain ⟨ji20, hji20⟩ : ∃ j_ : Int, (mn (((rd_T29 l2 x22_1).f0).size : Int) 6) = j_ := ⟨_, rfl⟩
    replace H : (if 0 ≤ (ji20) then (if (ji20) ≤ (((rd_T29 l2 x22_1).f0).size : Int) then (if 0 ≤ (mn (((rd_T29 l2 x22_1).f1).size : Int) 6) then (if (mn (((rd_T29 l2 x22_1).f1).size : Int) 6) ≤ (((rd_T29 l2 x22_1).f1).size : Int) then (if x21_1.length < 3518437208883 then (dialtonelaw12_PlanMatchesReference.l0 k1 l2 l3 a4 a5 a6 a7 a8 true t358 (x21_1 ++ [(⟨((rd_T29 l2 x22_1).f0).extract 0 ((ji20) : Int).toNat, ((rd_T29 l2 x22_1).f1).extract 0 ((mn (((rd_T29 l2 x22_1).f1).size : Int) 6) : Int).toNat, (rd_T29 l2 x22_1).f2⟩ : S29)]) (wrap64 (x22_1 + 1)) a1_0 a1_1 a1_2) else (none)) else (none)) else (none)) else (none)) else (none)) = some r := by first | (rw [hji20] at H; exact H) | (simp only [hji20] at H ⊢; exact H)
    have hji20_ : (if 6 < (((rd_T29 l2 x22_1).f0).size : Int) then 6 else (((rd_T29 l2 x22_1).f0).size : Int)) = ji20 := hji20
    by_cases c21 : 0 ≤ (ji20)
    rotate_left
    ·rw [if_neg c21] at H
     exact absurd H (by simp)
    rw [if_pos c21] at H
    have c21b0 := eq_true c21
    have c21b1 : decide (0 ≤ (ji20)) = true := decide_eq_true c21
    clear c21
    by_cases c22 : (ji20) ≤ (((rd_T29 l2 x22_1).f0).size : Int)
    rotate_left
    ·rw [if_neg c22] at H
     exact absurd H (by simp)
    rw [if_pos c22] at H
    have c22b0 := eq_true c22
    have c22b1 : decide ((ji20) ≤ (((rd_T29 l2 x22_1).f0).size : Int)) = true := decide_eq_true c22
    clear c22
    obtain ⟨ji23, hji23⟩ : ∃ j_ : Int, (mn (((rd_T29 l2 x22_1).f1).size : Int) 6) = j_ := ⟨_, rfl⟩
    replace H : (if 0 ≤ (ji23) then (if (ji23) ≤ (((rd_T29 l2 x22_1).f1).size : Int) then (if x21_1.length < 3518437208883 then (dialtonelaw12_PlanMatchesReference.l0 k1 l2 l3 a4 a5 a6 a7 a8 true t358 (x21_1 ++ [(⟨((rd_T29 l2 x22_1).f0).extract 0 ((ji20) : Int).toNat, ((rd_T29 l2 x22_1).f1).extract 0 ((ji23) : Int).toNat, (rd_T29 l2 x22_1).f2⟩ : S29)]) (wrap64 (x22_1 + 1)) a1_0 a1_1 a1_2) else (none)) else (none)) else (none)) = some r := by first | (rw [hji23] at H; exact H) | (simp only [hji23] at H ⊢; exact H)
    have hji23_ : (if 6 < (((rd_T29 l2 x22_1).f1).size : Int) then 6 else (((rd_T29 l2 x22_1).f1).size : Int)) = ji23 := hji23
    by_cases c24 : 0 ≤ (ji23)
    rotate_left
    ·rw [if_neg c24] at H
     exact absurd H (by simp)
    rw [if_pos c24] at H
    have c24b0 := eq_true c24
    have c24b1 : decide (0 ≤ (ji23)) = true := decide_eq_true c24
    clear c24
    by_cases c25 : (ji23) ≤ (((rd_T29 l2 x22_1).f1).size : Int)
    rotate_left
    ·rw [if_neg c25] at H
     exact absurd H (by simp)
    rw [if_pos c25] at H
    have c25b0 := eq_true c25
    have c25b1 : decide ((ji23) ≤ (((rd_T29 l2 x22_1).f1).size : Int)) = true := decide_eq_true c25
    clear c25
    by_cases c26 : x21_1.length < 3518437208883
    rotate_left
    ·rw [if_neg c26] at H
     exact absurd H (by simp)
    rw [if_pos c26] at H
    have LMc26 := Aside0.mk c26
    clear c26
    obtain ⟨y363, hy363⟩ : ∃ y_ : List (S29), y_ = (x21_1 ++ [(⟨((rd_T29 l2 x22_1).f0).extract 0 ((ji20) : Int).toNat, ((rd_T29 l2 x22_1).f1).extract 0 ((ji23) : Int).toNat, (rd_T29 l2 x22_1).f2⟩ : S29)]) := ⟨_, rfl⟩
    replace H : (dialtonelaw12_PlanMatchesReference.l0 k1 l2 l3 a4 a5 a6 a7 a8 true t358 y363 (wrap64 (x22_1 + 1)) a1_0 a1_1 a1_2) = some r := by first | (rw [hy363]; with_reducible exact H) | (have H2_ := (Option.bind_some _ _).symm.trans H; rw [hy363]; with_reducible exact H2_) | (have H2_ := (Option.bind_some _ _).symm.trans H; with_reducible exact H2_) | with_reducible exact H | (rw [hy363]; exact H) | exact H
    have Ny363 := Aside0.mk hy363
    clear hy363
    have H' := Aside0.mk H
    clear H
    have p361 : 0 ≤ (x22_1 : Int) := of_decide_eq_true (zq18)
    have q361 : x22_1 < (l2.length : Int) := of_decide_eq_true (zq18)
    obtain ⟨ad361, e361, hx361_0, hx361_1, hx361_2⟩ := at_T29 HR2.out x22_1 p361 q361
    cases e361
    replace hx361_0 := (HB.out.cell (World.block_lt_of_cell? w _ hx361_0)).trans hx361_0
    replace hx361_1 := (HB.out.cell (World.block_lt_of_cell? w _ hx361_1)).trans hx361_1
    replace hx361_2 := (HB.out.cell (World.block_lt_of_cell? w _ hx361_2)).trans hx361_2
    replace p361 := eq_true p361
    replace q361 := eq_true q361
    try go_wp2_with (first | ((with_reducible refine gate_dst (N := 23) rfl ?_); refine box_event ?hg (N := 23) ?hd (cs := #[.string (⟨#[]⟩ : ByteArray), .string (⟨#[]⟩ : ByteArray), .int .i64 0]) (t := 29) ?hr ?_; (case hd => rfl); (case hg => rfl); (case hr => exact zq3); intro gb362 hg w27 hbox hb; replace HO_20 := Aside0.mk (Kd.R_below (Kd.R_elderB (zq163) gb362 (Nat.le_of_eq hg.symm)) hb); replace HO_21 := Aside0.mk (Kd.R_below (Kd.R_elderB (zq164) gb362 (Nat.le_of_eq hg.symm)) hb); have BK362 := Aside0.mk (hbox); have GW362 := Aside0.mk ((zq165 : w.heap.size ≤ gb362)); have GE362 := Aside0.mk ((zq165 : w.heap.size ≤ gb362)); replace HB := Aside0.mk (below_step (zq161) hb); have NB356_362 := Aside0.mk ((by rw [hg]; exact Nat.ne_of_lt (blk_lt (g := gb356) (o := .cells #[.int .i64 a1_0, .int .i64 a1_1, .int .i64 a1_2] 23 (0, 0)) (zq162)) : gb356 ≠ gb362)); have NB362_356 := Aside0.mk ((by rw [hg]; exact Nat.ne_of_gt (blk_lt (g := gb356) (o := .cells #[.int .i64 a1_0, .int .i64 a1_1, .int .i64 a1_2] 23 (0, 0)) (zq162)) : gb362 ≠ gb356)); replace BK356 := Aside0.mk (blk_below (g := gb356) (o := .cells #[.int .i64 a1_0, .int .i64 a1_1, .int .i64 a1_2] 23 (0, 0)) (zq162) hb); clear hb hbox hg; have hnb28 := NB362_356.out; have hnc28 := NB356_362.out; have hcz29_0 : w27.cell? ⟨gb362, 0, none⟩ = some (.string (⟨#[]⟩ : ByteArray)) := (blk_cell BK362.out 0).trans rfl; have hcz29_1 : w27.cell? ⟨gb362, 1, none⟩ = some (.string (⟨#[]⟩ : ByteArray)) := (blk_cell BK362.out 1).trans rfl; have hcz29_2 : w27.cell? ⟨gb362, 2, none⟩ = some (.int .i64 0) := (blk_cell BK362.out 2).trans rfl; have hfz29_0 := blk_frozen BK362.out 0; have hfz29_1 := blk_frozen BK362.out 1; have hfz29_2 := blk_frozen BK362.out 2))
    have n0_ : Aside0 (Kd.R k29 29 (((w27.setCell ⟨gb362, 0, none⟩ (.string ((rd_T29 l2 x22_1).f0))).setCell ⟨gb362, 1, none⟩ (.string ((rd_T29 l2 x22_1).f1))).setCell ⟨gb362, 2, none⟩ (.int .i64 ((rd_T29 l2 x22_1).f2))) w.heap.size (fun k_ => some k_ ≠ (u21 : Value).ownBlock ∧ k_ ≠ gb362) v359 t358) := ⟨by (with_reducible repeat (first | apply Kd.R_alloc | apply Kd.R_drewN | apply Kd.R_drew)); exact Kd.R_mono (Kd.R_far (p := ⟨gb362, 2, none⟩) (Kd.R_far (p := ⟨gb362, 1, none⟩) (Kd.R_far (p := ⟨gb362, 0, none⟩) (Kd.R_mono HO_20.out (fun k_ hk => (⟨hk, hk.2⟩ : _ ∧ k_ ≠ gb362))) (fun _ hk => hk.2) (.string ((rd_T29 l2 x22_1).f0))) (fun _ hk => hk.2) (.string ((rd_T29 l2 x22_1).f1))) (fun _ hk => hk.2) (.int .i64 ((rd_T29 l2 x22_1).f2))) (fun _ hk => ⟨hk.1.1, hk.1.2⟩)⟩
    have n1_ : Aside0 (Kd.R k29 29 (((w27.setCell ⟨gb362, 0, none⟩ (.string ((rd_T29 l2 x22_1).f0))).setCell ⟨gb362, 1, none⟩ (.string ((rd_T29 l2 x22_1).f1))).setCell ⟨gb362, 2, none⟩ (.int .i64 ((rd_T29 l2 x22_1).f2))) w.heap.size (fun k_ => some k_ ≠ (v359 : Value).ownBlock ∧ k_ ≠ gb362) u21 x21_1) := ⟨by (with_reducible repeat (first | apply Kd.R_alloc | apply Kd.R_drewN | apply Kd.R_drew)); exact Kd.R_mono (Kd.R_far (p := ⟨gb362, 2, none⟩) (Kd.R_far (p := ⟨gb362, 1, none⟩) (Kd.R_far (p := ⟨gb362, 0, none⟩) (Kd.R_mono HO_21.out (fun k_ hk => (⟨hk, hk.2⟩ : _ ∧ k_ ≠ gb362))) (fun _ hk => hk.2) (.string ((rd_T29 l2 x22_1).f0))) (fun _ hk => hk.2) (.string ((rd_T29 l2 x22_1).f1))) (fun _ hk => hk.2) (.int .i64 ((rd_T29 l2 x22_1).f2))) (fun _ hk => ⟨hk.1.1, hk.1.2⟩)⟩
    have n2_ : Aside0 ((((w27.setCell ⟨gb362, 0, none⟩ (.string ((rd_T29 l2 x22_1).f0))).setCell ⟨gb362, 1, none⟩ (.string ((rd_T29 l2 x22_1).f1))).setCell ⟨gb362, 2, none⟩ (.int .i64 ((rd_T29 l2 x22_1).f2))).heap[gb356]? = some (.cells #[.int .i64 a1_0, .int .i64 a1_1, .int .i64 a1_2] 23 (0, 0))) := ⟨by (with_reducible repeat (first | refine blk_drewN ?_ _ | refine blk_drew ?_ | refine blk_alloc ?_ _)); refine blk_far ?_ NB356_362.out _; (with_reducible repeat (first | refine blk_drewN ?_ _ | refine blk_drew ?_ | refine blk_alloc ?_ _)); refine blk_far ?_ NB356_362.out _; (with_reducible repeat (first | refine blk_drewN ?_ _ | refine blk_drew ?_ | refine blk_alloc ?_ _)); refine blk_far ?_ NB356_362.out _; (with_reducible repeat (first | refine blk_drewN ?_ _ | refine blk_drew ?_ | refine blk_alloc ?_ _)); exact BK356.out⟩
    have n3_ : Aside0 ((((w27.setCell ⟨gb362, 0, none⟩ (.string ((rd_T29 l2 x22_1).f0))).setCell ⟨gb362, 1, none⟩ (.string ((rd_T29 l2 x22_1).f1))).setCell ⟨gb362, 2, none⟩ (.int .i64 ((rd_T29 l2 x22_1).f2))).heap[gb362]? = some (.cells #[.string ((rd_T29 l2 x22_1).f0), .string ((rd_T29 l2 x22_1).f1), .int .i64 ((rd_T29 l2 x22_1).f2)] 29 (0, 0))) := ⟨by (with_reducible repeat (first | refine blk_drewN ?_ _ | refine blk_drew ?_ | refine blk_alloc ?_ _)); refine blk_put (cs := #[.string ((rd_T29 l2 x22_1).f0), .string ((rd_T29 l2 x22_1).f1), .int .i64 0]) ?_ 2 _ rfl; (with_reducible repeat (first | refine blk_drewN ?_ _ | refine blk_drew ?_ | refine blk_alloc ?_ _)); refine blk_put (cs := #[.string ((rd_T29 l2 x22_1).f0), .string (⟨#[]⟩ : ByteArray), .int .i64 0]) ?_ 1 _ rfl; (with_reducible repeat (first | refine blk_drewN ?_ _ | refine blk_drew ?_ | refine blk_alloc ?_ _)); refine blk_put (cs := #[.string (⟨#[]⟩ : ByteArray), .string (⟨#[]⟩ : ByteArray), .int .i64 0]) ?_ 0 _ rfl; (with_reducible repeat (first | refine blk_drewN ?_ _ | refine blk_drew ?_ | refine blk_alloc ?_ _)); exact BK362.out⟩
    have n4_ : Aside0 (Below w.heap.size w (((w27.setCell ⟨gb362, 0, none⟩ (.string ((rd_T29 l2 x22_1).f0))).setCell ⟨gb362, 1, none⟩ (.string ((rd_T29 l2 x22_1).f1))).setCell ⟨gb362, 2, none⟩ (.int .i64 ((rd_T29 l2 x22_1).f2)))) := ⟨zq166⟩
    (try clear HO_20)
    (try clear HO_21)
    (try clear BK356)
    (try clear BK362)
    (try clear HB)
    generalize (((w27.setCell ⟨gb362, 0, none⟩ (.string ((rd_T29 l2 x22_1).f0))).setCell ⟨gb362, 1, none⟩ (.string ((rd_T29 l2 x22_1).f1))).setCell ⟨gb362, 2, none⟩ (.int .i64 ((rd_T29 l2 x22_1).f2))) = w30 at n0_ n1_ n2_ n3_ n4_ ⊢
    have HO_20 := n0_
    have HO_21 := n1_
    have BK356 := n2_
    have BK362 := n3_
    have HB := n4_
    clear n0_ n1_ n2_ n3_ n4_
    replace HO_20 := Aside0.mk (Kd.R_drew HO_20.out)
    replace HO_21 := Aside0.mk (Kd.R_drew HO_21.out)
    replace BK356 := Aside0.mk (blk_drew BK356.out)
    replace BK362 := Aside0.mk (blk_drew BK362.out)
    replace HB := Aside0.mk (below_drew1 HB.out)
    refine start_ (n := 21) (S := fun w' => w'.cell? ⟨gb362, 0, none⟩ = some (.string ((rd_T29 l2 x22_1).f0)) ∧ w'.cell? ⟨gb362, 1, none⟩ = some (.string ((rd_T29 l2 x22_1).f1)) ∧ w'.cell? ⟨gb362, 2, none⟩ = some (.int .i64 ((rd_T29 l2 x22_1).f2))) (ds := []) (bm 21 0) (by kernel_rfl) rfl rfl ⟨(blk_cell BK362.out 0).trans rfl, (blk_cell BK362.out 1).trans rfl, (blk_cell BK362.out 2).trans rfl⟩ (fun hHeld => ?_); refine with_tabW dialtonelaw12_PlanMatchesReference.tab10 dialtonelaw12_PlanMatchesReference.bits10 (fun HT_ HW_ => ?_)
    generalize w30.drew = w31 at HO_20 HO_21 BK356 BK362 HB hHeld ⊢
    refine pz 0 (some 67) (bm 21 1) HT_ ?_
    refine pz 1 (some 68) (bm 21 3) HT_ ?_
    refine pz 3 (some 70) (bm 21 11) HT_ ?_
    refine pz 8 (some 75) (bm 21 267) HT_ ?_
    refine pz 10 (some 77) (bm 21 1291) HT_ ?_
    refine pz 15 (some 82) (bm 21 34059) HT_ ?_
    refine tz 2 (some 69) (bm 21 34063) HT_ HW_ hHeld ?_
    refine tz 4 (some 71) (bm 21 34079) HT_ HW_ hHeld ?_
    refine pz 5 (some 72) (bm 21 34111) HT_ ?_
    refine pz 6 (some 73) (bm 21 34175) HT_ ?_
    refine pz 7 (some 74) (bm 21 34303) HT_ ?_
    refine tz 9 (some 76) (bm 21 34815) HT_ HW_ hHeld ?_
    refine tz 11 (some 78) (bm 21 36863) HT_ HW_ hHeld ?_
    refine pz 12 (some 79) (bm 21 40959) HT_ ?_
    refine pz 13 (some 80) (bm 21 49151) HT_ ?_
    refine pz 14 (some 81) (bm 21 65535) HT_ ?_
    refine tz 16 (some 83) (bm 21 131071) HT_ HW_ hHeld ?_
    refine pz 17 (some 84) (bm 21 262143) HT_ ?_
    refine one_ (i := 18) (N := some 85) (bm 21 524287) rfl rfl (one_of HT_.out (by kernel_rfl)) (by decide) (fun K hK => ?_)
    refine value_ (w1 := ?_) (v := ?_) (by rfl) rfl ?_ ?_
    rotate_left 2
    ·go_simp
     constructor
     ·rfl
     ·rfl
    refine hK.out _ _ ⟨(blk_cell (blk_alloc BK362.out _) 0).trans rfl, (blk_cell (blk_alloc BK362.out _) 1).trans rfl, (blk_cell (blk_alloc BK362.out _) 2).trans rfl⟩ (fun hHeld => ?_)
    clear hK K
    refine nz (some 85) ?_
    refine one_ (i := 19) (N := some 86) (bm 21 1048575) rfl rfl (one_of HT_.out (by kernel_rfl)) (by decide) (fun K hK => ?_)
    refine Kd.R_append_step k29 (w0 := w) w.heap.size (by rfl) (.tmp 67) (.tmp 85) 24 29 (.agg #[(.string ⟨#[]⟩), (.string ⟨#[]⟩), (.int .i64 0)]) 40 rfl Tryz.underlying24 info29 rfl (by decide) (by omega) u21 x21_1 (⟨((rd_T29 l2 x22_1).f0).extract 0 ((ji20) : Int).toNat, ((rd_T29 l2 x22_1).f1).extract 0 ((ji23) : Int).toNat, (rd_T29 l2 x22_1).f2⟩ : S29) [.string (((rd_T29 l2 x22_1).f0).extract 0 ((ji20) : Int).toNat), .string (((rd_T29 l2 x22_1).f1).extract 0 ((ji23) : Int).toNat), .int .i64 ((rd_T29 l2 x22_1).f2)] (fun k_ => some k_ ≠ (v359 : Value).ownBlock ∧ k_ ≠ gb362) (fun _ => False) rfl rfl ?aP (fun _ hk => hk.elim) ?aF ?aO ?aB ?aS ?aL ?_
    (case aP => exact k29_mkM _ _ _ (⟨((rd_T29 l2 x22_1).f0).extract 0 ((ji20) : Int).toNat, ((rd_T29 l2 x22_1).f1).extract 0 ((ji23) : Int).toNat, (rd_T29 l2 x22_1).f2⟩ : S29))
    (case aB => exact (zq166))
    (case aF => exact (fun k_ hk => ⟨Kd.fresh' (Kd.R_lt (zq163)) k_ hk, Kd.freshB (g := gb362) (o := .cells #[.string ((rd_T29 l2 x22_1).f0), .string ((rd_T29 l2 x22_1).f1), .int .i64 ((rd_T29 l2 x22_1).f2)] 29 (0, 0)) (zq167) k_ hk⟩))
    (case aO => exact (zq164))
    (case aS => exact (below_size (zq166)))
    (case aL => have := LMc26.out; omega)
    intro v364 w32 ho hb hg hat
    rw [← Ny363.out] at ho
    replace HO_20 := Aside0.mk (Kd.R_after (ok := (fun k_ => k_ ≠ gb362)) (by (with_reducible repeat (first | apply Kd.R_alloc | apply Kd.R_drewN | apply Kd.R_drew)); exact Kd.R_mono HO_20.out (fun _ hk => ⟨hk.2, hk.1⟩)) hg hat)
    replace BK356 := Aside0.mk (blk_grown (g := gb356) (o := .cells #[.int .i64 a1_0, .int .i64 a1_1, .int .i64 a1_2] 23 (0, 0)) (zq162) hg (Kd.R_ne HO_21.out BK356.out (by decide)))
    replace BK362 := Aside0.mk (blk_grown (g := gb362) (o := .cells #[.string ((rd_T29 l2 x22_1).f0), .string ((rd_T29 l2 x22_1).f1), .int .i64 ((rd_T29 l2 x22_1).f2)] 29 (0, 0)) (zq167) hg (Kd.R_away HO_21.out (fun _ hk => hk.2)))
    replace HB := Aside0.mk (hb)
    have HO365 := Aside0.mk (ho)
    clear HO_21
    clear ho hb hg hat
    refine hK.out _ _ ⟨(blk_cell BK362.out 0).trans rfl, (blk_cell BK362.out 1).trans rfl, (blk_cell BK362.out 2).trans rfl⟩ (fun hHeld => ?_)
    clear hK K
    refine nz (some 86) ?_
    refine pz 20 (some 21) (bm 21 2097151) HT_ ?_
    refine done_ (done_of HT_.out (by kernel_rfl)) ?_
    try go_wp2
    go_roundg k1
    case measure => have := HK1.out; omega
    case rel => exact ⟨(y363), (wrap64 (x22_1 + 1)), (zq1), H', ⟨zq32⟩, ⟨by (with_reducible repeat (first | apply Kd.R_alloc | apply Kd.R_drewN | apply Kd.R_drew)); exact Kd.R_mono HO_20.out (fun _ hk => hk.2)⟩, ⟨by (with_reducible repeat (first | apply Kd.R_alloc | apply Kd.R_drewN | apply Kd.R_drew)); exact Kd.R_mono HO365.out (fun _ hk => hk.1)⟩, ⟨zq162⟩, ⟨zq166⟩⟩
 case rest =>
  clear HC13
  try clear c1
  try clear c2
  try clear p2
  try clear c3
  try clear p3
  try clear q3
  try clear hx3
  try clear p6
  try clear c11
  try clear c12
  try clear c17
  try clear c17b0
  try clear c18
  try clear c18b0
  try clear c19
  try clear c19b0
  try clear c21
  try clear c21b0
  try clear c21b1
  try clear c22
  try clear c22b0
  try clear c22b1
  try clear c24
  try clear c24b0
  try clear c24b1
  try clear c25
  try clear c25b0
  try clear c25b1
  try clear c26
  try clear c28
  try clear hcz29_0
  try clear hcz29_1
  try clear hcz29_2
  try clear hfz29_0
  try clear hfz29_1
  try clear hfz29_2
  try clear hx361_0
  try clear hx361_1
  try clear hx361_2
  try clear p2
  try clear p361
  try clear p6
  try clear q361
  obtain ⟨kq, x21_12, HA, HJ12, HO_20, HO_21, BK356, HB⟩ := hcut
  cases kq with
  | zero => exact absurd HA.out (by simp [dialtonelaw12_PlanMatchesReference.j1])
  | succ kj12 =>
   have H := HA.out
   clear HA
   simp only [dialtonelaw12_PlanMatchesReference.j1] at H
   replace H := Option.bind_eq_some_iff.mp H
   obtain ⟨t366, A330, H⟩ := H
   try dsimp only at H
   have A33 := Aside0.mk A330
   clear A330
   replace H := Option.bind_eq_some_iff.mp H
   obtain ⟨t367, A340, H⟩ := H
   try dsimp only at H
   have A34 := Aside0.mk A340
   clear A340
   obtain ⟨y370, hy370⟩ : ∃ y_ : List (List (S29)), y_ = (([t358, t367, x21_12] : List (List (S29)))) := ⟨_, rfl⟩
   replace H : (dialtonelaw12_PlanMatchesReference.l1 kj12 l3 a4 a5 a7 a8 true t366 y370 (y370.length : Int) 0) = some r := by first | (rw [hy370]; with_reducible exact H) | (have H2_ := (Option.bind_some _ _).symm.trans H; rw [hy370]; with_reducible exact H2_) | (have H2_ := (Option.bind_some _ _).symm.trans H; with_reducible exact H2_) | with_reducible exact H | (rw [hy370]; exact H) | exact H
   have Ny370 := Aside0.mk hy370
   clear hy370
   have H' := Aside0.mk H
   clear H
   obtain ⟨Ao35, co35, eo35⟩ := Kd.R_slice HO_20.out
   subst eo35
   go_wp2_with (first | ((with_reducible refine gate_callee (f := 13) rfl ?_); refine goesL_ (some 90) rfl rfl Tryz.func13 (by kernel_rfl) rfl #[.slice Ao35 t358.length co35, .int .i64 a6, .int .i64 a7] rfl (zq7) ?_; (with_reducible refine (dialtoneref12_Number.calls kj12 _ _ t358 a6 a7 t366 _ ?side1 ?side2 A33.out).mono ?_); (case side1 => exact zq168); (case side2 => exact (Kd.R_reads' HO_20.out).2.1); rintro e w36 ⟨rfl, hb⟩; refine ⟨_, rfl, ?_⟩; replace HO_20 := Aside0.mk (Kd.R_below (zq163) hb); replace HO_21 := Aside0.mk (Kd.R_below (zq164) hb); replace BK356 := Aside0.mk (blk_below (g := gb356) (o := .cells #[.int .i64 a1_0, .int .i64 a1_1, .int .i64 a1_2] 23 (0, 0)) (zq162) hb); replace HB := Aside0.mk (below_step (zq161) hb); (try clear hb); (try clear hb2); (try clear hk); (try clear hi); have hcz37_0 : w36.cell? ⟨gb356, 0, none⟩ = some (.int .i64 a1_0) := (blk_cell BK356.out 0).trans rfl; have hcz37_1 : w36.cell? ⟨gb356, 1, none⟩ = some (.int .i64 a1_1) := (blk_cell BK356.out 1).trans rfl; have hcz37_2 : w36.cell? ⟨gb356, 2, none⟩ = some (.int .i64 a1_2) := (blk_cell BK356.out 2).trans rfl; have hfz37_0 := blk_frozen BK356.out 0; have hfz37_1 := blk_frozen BK356.out 1; have hfz37_2 := blk_frozen BK356.out 2) | ((with_reducible refine gate_callee (f := 14) rfl ?_); refine goesL_ (some 99) rfl rfl Tryz.func14 (by kernel_rfl) rfl #[.slice Ao35 t358.length co35, .int .i64 a1_0, .int .i64 a1_1, .int .i64 a1_2] rfl (zq7) ?_; (with_reducible refine (dialtoneref12_Bent.calls kj12 _ _ t358 a1_0 a1_1 a1_2 t367 _ ?side1 ?side2 A34.out).mono ?_); (case side1 => exact zq168); (case side2 => exact (Kd.R_reads' HO_20.out).2.1); rintro e w38 ⟨v368, rfl, ho0, hb⟩; refine ⟨_, rfl, ?_⟩; have HO369 := Aside0.mk (Kd.R_lower (Kd.R_new' (Kd.R_new' ho0 (Kd.R_lt (zq163))) (Kd.R_lt (zq164))) (below_size (zq161))); replace HO_20 := Aside0.mk (Kd.R_elder' (zq163) (Kd.R_base ho0) hb); replace HO_21 := Aside0.mk (Kd.R_elder' (zq164) (Kd.R_base ho0) hb); replace BK356 := Aside0.mk (blk_below (g := gb356) (o := .cells #[.int .i64 a1_0, .int .i64 a1_1, .int .i64 a1_2] 23 (0, 0)) (zq162) hb); replace HB := Aside0.mk (below_step (zq161) hb); (try clear hb); (try clear hb2); (try clear hk); (try clear hi); (try clear ho0); obtain ⟨Ao39, co39, eo39⟩ := Kd.R_slice HO369.out; subst eo39; obtain ⟨Ao40, co40, eo40⟩ := Kd.R_slice HO_21.out; subst eo40) | ((with_reducible refine gate_dst (N := 101) rfl ?_); refine Kd.N_lit (Kd.slice 29 k29) _ 24 ?hg (N' := 101) ?hd (xs := ([t358, t367, x21_12] : List (List (S29)))) (inner := [.slice Ao35 t358.length co35, .slice Ao39 t367.length co39, .slice Ao40 x21_12.length co40]) (ok := (fun k_ => k_ ≠ gb356)) (okp := (fun k_ => k_ ≠ gb356)) ?hr ?hp (fun _ hk => hk) ((show ∀ k_, w38.heap.size ≤ k_ → (fun k_ => k_ ≠ gb356) k_ from fun k_ hk => Kd.freshB (g := gb356) (o := .cells #[.int .i64 a1_0, .int .i64 a1_1, .int .i64 a1_2] 23 (0, 0)) (zq162) k_ hk) _ (Nat.le_refl _)) (Below.refl _ _) (Nat.le_refl _) (by simp) ?_; (case hd => rfl); (case hg => rfl); (case hr => exact zq3); (case hp => exact (Reps.one (show Kd.FK (Kd.slice 29 k29) _ _ t358 [.slice Ao35 t358.length co35] from (Kd.FK_slice_mk (Kd.R_reads' (Kd.R_mono (ok' := (fun k_ => k_ ≠ gb356)) (Kd.R_types (HO_20.out) BK356.out (by decide)) (fun k_ hk => hk.2))).2.1 (Kd.R_F (Kd.R_mono (ok' := (fun k_ => k_ ≠ gb356)) (Kd.R_types (HO_20.out) BK356.out (by decide)) (fun k_ hk => hk.2))))) (Reps.one (show Kd.FK (Kd.slice 29 k29) _ _ t367 [.slice Ao39 t367.length co39] from (Kd.FK_slice_mk (Kd.R_reads' (Kd.R_mono (ok' := (fun k_ => k_ ≠ gb356)) (Kd.R_types (HO369.out) BK356.out (by decide)) (fun k_ hk => hk.2))).2.1 (Kd.R_F (Kd.R_mono (ok' := (fun k_ => k_ ≠ gb356)) (Kd.R_types (HO369.out) BK356.out (by decide)) (fun k_ hk => hk.2))))) (Reps.one (show Kd.FK (Kd.slice 29 k29) _ _ x21_12 [.slice Ao40 x21_12.length co40] from (Kd.FK_slice_mk (Kd.R_reads' (Kd.R_mono (ok' := (fun k_ => k_ ≠ gb356)) (Kd.R_types (HO_21.out) BK356.out (by decide)) (fun k_ hk => hk.2))).2.1 (Kd.R_F (Kd.R_mono (ok' := (fun k_ => k_ ≠ gb356)) (Kd.R_types (HO_21.out) BK356.out (by decide)) (fun k_ hk => hk.2))))) (Reps.none _ _))))); intro v371 w41 ho42 hb hg_ hnew_; clear hg_ hnew_; (first | rw [← Ny370.out] at ho42 | (simp only [Int.reduceToNat] at ho42; rw [← Ny370.out] at ho42)); have HO372 := Aside0.mk (Kd.N_lower ho42 (below_size (zq161))); replace BK356 := Aside0.mk (blk_below (g := gb356) (o := .cells #[.int .i64 a1_0, .int .i64 a1_1, .int .i64 a1_2] 23 (0, 0)) (zq162) hb); replace HB := Aside0.mk (below_step (zq161) hb); clear HO369 HO_20 HO_21; clear hb ho42; obtain ⟨Ao43, co43, eo43⟩ := Kd.N_slice HO372.out; subst eo43))
   go_loopg [103] kj12 (fun kq v103 w' => ∃ (x103_2 : Int), v103 = .int .i64 x103_2 ∧ Aside0 (dialtonelaw12_PlanMatchesReference.l1 kq l3 a4 a5 a7 a8 true t366 y370 (y370.length : Int) x103_2 = some r) ∧ Aside0 (kq ≤ kj12) ∧ Aside0 (Kd.N (Kd.slice 29 k29) 24 w' w.heap.size (fun k_ => k_ ≠ gb356) (.slice Ao43 y370.length co43) y370) ∧ Aside0 (w'.heap[gb356]? = some (.cells #[.int .i64 a1_0, .int .i64 a1_1, .int .i64 a1_2] 23 (0, 0))) ∧ Aside0 (Below w.heap.size w w'))
   case atStart => exact ⟨(0), (zq1), H', ⟨Nat.le_refl _⟩, ⟨by (with_reducible repeat (first | apply Kd.N_alloc | apply Kd.N_drewN | apply Kd.N_drew)); exact HO372.out⟩, ⟨zq162⟩, ⟨zq161⟩⟩
   case round =>
    clear H'
    try clear c1
    try clear c2
    try clear p2
    try clear c3
    try clear p3
    try clear q3
    try clear hx3
    try clear p6
    try clear c11
    try clear c12
    try clear c13
    try clear c14
    try clear c17
    try clear c17b0
    try clear c18
    try clear c18b0
    try clear c19
    try clear c19b0
    try clear c21
    try clear c21b0
    try clear c21b1
    try clear c22
    try clear c22b0
    try clear c22b1
    try clear c24
    try clear c24b0
    try clear c24b1
    try clear c25
    try clear c25b0
    try clear c25b1
    try clear c26
    try clear c28
    try clear p36
    try clear q36
    try clear hx36
    try clear hcz29_0
    try clear hcz29_1
    try clear hcz29_2
    try clear hcz37_0
    try clear hcz37_1
    try clear hcz37_2
    try clear hfz29_0
    try clear hfz29_1
    try clear hfz29_2
    try clear hfz37_0
    try clear hfz37_1
    try clear hfz37_2
    try clear hx361_0
    try clear hx361_1
    try clear hx361_2
    try clear p2
    try clear p3
    try clear p361
    try clear p6
    try clear q3
    try clear q361
    obtain ⟨x103_2, rfl, HA, HK2, HO_101, BK356, HB⟩ := hrel
    cases gk with
    | zero => exact absurd HA.out (by simp [dialtonelaw12_PlanMatchesReference.l1])
    | succ k2 =>
     have H := HA.out
     clear HA
     simp only [dialtonelaw12_PlanMatchesReference.l1] at H
     by_cases c44 : x103_2 < (y370.length : Int)
     rotate_left
     ·rw [if_neg c44] at H
      have c44b0 : decide (x103_2 < (y370.length : Int)) = false := decide_eq_false c44
      clear c44
      obtain rfl := Option.some.inj H
      go_wp2
      go_ret
      exact ⟨zq6, zq161⟩
     rw [if_pos c44] at H
     have c44b0 : decide (x103_2 < (y370.length : Int)) = true := decide_eq_true c44
     clear c44
     by_cases c45 : 0 ≤ x103_2
     rotate_left
     ·rw [if_neg c45] at H
      exact absurd H (by simp)
     rw [if_pos c45] at H
     have c45b0 : decide (0 ≤ x103_2) = true := decide_eq_true c45
     clear c45
     by_cases c46 : x103_2 < (y370.length : Int)
     rotate_left
     ·rw [if_neg c46] at H
      exact absurd H (by simp)
     rw [if_pos c46] at H
     have c46b0 : decide (x103_2 < (y370.length : Int)) = true := decide_eq_true c46
     clear c46
     replace H := Option.bind_eq_some_iff.mp H
     obtain ⟨tu, A470, H⟩ := H
     have A47 := Aside0.mk A470
     clear A470
     have H' := Aside0.mk H
     clear H
     have p373 : 0 ≤ (x103_2 : Int) := of_decide_eq_true (zq18)
     have q373 : x103_2 < (y370.length : Int) := of_decide_eq_true (zq18)
     obtain ⟨ad373, A373_0, c373_0, e373, hx373_0, hl373_0, hi373_0⟩ := at_L3 (Kd.N_reads' HO_101.out).2.2 x103_2 p373 q373
     cases e373
     obtain ⟨ce373, hce373, hMe373, hcc373⟩ := Kd.N_get HO_101.out [] x103_2 p373 (by first | exact q373 | exact of_decide_eq_true (zq18) | (have e_ := (Kd.N_reads' HO_101.out).1; omega))
     obtain ⟨ua373_0, uc373_0, rfl, ul373_0, ge373_0⟩ := Kd.FK_slice_open hMe373
     have hv373_0 := hcc373 0 _ rfl
     rw [Nat.add_zero, show ((Kd.slice 29 k29)).sz = 1 from rfl, Nat.mul_one] at hv373_0
     replace hv373_0 := Option.some.inj (hv373_0.symm.trans hx373_0)
     injection hv373_0 with hva_ hvn_ hvc_
     rw [hva_] at ge373_0
     rw [hvc_] at ul373_0
     have HL373_0 := Aside0.mk (show Kd.V k29 29 _ w.heap.size _ _ (rd_L3 y370 x103_2) from Kd.V_mk ul373_0 ge373_0)
     clear hva_ hvn_ hvc_ ge373_0 ul373_0
     clear hcc373 hce373
     have HR373_0 := Aside0.mk hi373_0
     have HC373_0 := Aside0.mk hl373_0
     clear hi373_0 hl373_0
     replace p373 := eq_true p373
     replace q373 := eq_true q373
     go_upto_block 3 with (fail)
     refine wp_block ?_
     refine seq_hold fun K HKK => ?_
     go_wp2
     refine HKK.out _ _ ?_
     clear HKK
     refine wp_mono (dialtonelaw12_PlanMatchesReference_round.calls k2 A373_0 c373_0 (rd_L3 y370 x103_2) A3 c3 l3 a4 a5 a7 t366 a8 _ HR373_0.out HC373_0.out (Kd.C_below HR3.out HB.out) HC3.out (Glb.below HGLB.out HB.out) A47.out) ?_
     rintro e a w' hp
     obtain ⟨rfl, hF, hb⟩ := pieceQ_open hp
     clear hp
     have BK356_ := Aside0.mk (blk_below (g := gb356) (o := .cells #[.int .i64 a1_0, .int .i64 a1_1, .int .i64 a1_2] 23 (0, 0)) BK356.out hb)
     have HO_101_ := Aside0.mk (Kd.N_below HO_101.out hb)
     have HB_ := Aside0.mk (below_step HB.out hb)
     clear BK356 HO_101 HB hb
     refine hF (fun a_ => Exit.inBlock 3 _ Exit.normal a_ w') ?_
     clear hF
     intros
     simp only [Exit.inBlock, Exit.then]
     go_wp2
     go_roundg k2
     case measure => have := HJ12.out; have := HK2.out; omega
     case rel => exact ⟨(wrap64 (x103_2 + 1)), (zq1), H', ⟨by have := HJ12.out; have := HK2.out; omega⟩, HO_101_, BK356_, HB_⟩
end Go.Proofs.YtlmfoblgheepoaaGreatDoor.Pl
end
section
namespace Go.Proofs.YtlmfoblgheepoaaGreatDoor.Pure
open Go.RowKit Go.Proofs.YtlmfoblgheepoaaGreatDoorW.PrintWords Go.Proofs.YtlmfoblgheepoaaGreatDoorW.PrintLast Go.Proofs.YtlmfoblgheepoaaGreatDoorW.PrintMore Go.Proofs.YtlmfoblgheepoaaGreatDoor.Pl
theorem sane_at : dialtonelaw12_sane.f 60 = some true := by kernel_rfl
theorem sane_ev : Ev (fun k => dialtonelaw12_sane.f k) true := Ev.of dialtonelaw12_sane.mono sane_at
end Go.Proofs.YtlmfoblgheepoaaGreatDoor.Pure
end
section
namespace Go.Proofs.YtlmfoblgheepoaaGreatDoor.Pure
open Go.RowKit Go.Proofs.YtlmfoblgheepoaaGreatDoorW.PrintWords Go.Proofs.YtlmfoblgheepoaaGreatDoorW.PrintLast Go.Proofs.YtlmfoblgheepoaaGreatDoorW.PrintMore Go.Proofs.YtlmfoblgheepoaaGreatDoor.Pl
set_option linter.unusedVariables false
set_option linter.unusedSimpArgs false
abbrev D := List UInt8
def isD (b : UInt8) : Bool := decide (48 ≤ b.toNat) && decide (b.toNat ≤ 57)
def digs (l : D) : Bool := l.all isD
def apt (a b : D) : Bool := !a.isPrefixOf b && !b.isPrefixOf a
def co (c : S29) : D := c.f0.data.toList
def cn (c : S29) : D := c.f1.data.toList
def oneC (c : S29) : Bool := (digs (co c) && digs (cn c)) && (decide (1 ≤ (co c).length ∧ (co c).length ≤ 4 ∧ 1 ≤ (cn c).length ∧ (cn c).length ≤ 5 ∧ ((co c).length : Int) < c.f2 ∧ c.f2 ≤ 7 ∧ c.f2 - (co c).length ≤ 8 - (cn c).length) && apt (co c) (cn c))
def dif (c d : S29) : Bool := apt (co c) (co d) && (apt (cn c) (cn d) && (apt (co c) (cn d) && apt (cn c) (co d)))
def vgo : List S29 → List S29 → Bool
  | _, [] => true
  | done, c :: r => oneC c && (done.all (dif c) && vgo (done ++ [c]) r)
def vp (p : List S29) : Bool := decide (p.length ≤ 20) && vgo [] p
theorem w64 {n : Int} (h : -9223372036854775808 ≤ n) (h' : n ≤ 9223372036854775807) : wrap64 n = n := by unfold wrap64; omega
theorem dw_nil (f : UInt8 → Bool) : ∀ l : D, l.dropWhile f = [] ↔ ∀ b ∈ l, f b = true
  | [] => by simp
  | a :: t => by
    rw [List.dropWhile_cons]
    cases h : f a with
    | true => simp [h, dw_nil f t]
    | false => simp [h]
theorem dw_head (f : UInt8 → Bool) : ∀ (l : D) {a : UInt8} {t : D}, l.dropWhile f = a :: t → f a = false
  | [], _, _, h => by simp at h
  | b :: r, a, t, h => by
    rw [List.dropWhile_cons] at h
    cases hb : f b with
    | true => rw [hb] at h; exact dw_head f r h
    | false => rw [hb] at h; simp at h; rw [← h.1]; exact hb
theorem trim_nil (l cs : D) : (Lib.trimS l cs = []) ↔ l.all (cs.contains ·) = true := by
  constructor
  · intro h
    have h1 : ∀ b ∈ Lib.trimRightS l cs, cs.contains b = true := by
      unfold Lib.trimS Lib.trimLeftS at h
      intro b hb
      exact (dw_nil _ _).mp h b hb
    have h2 : Lib.trimRightS l cs = [] := by
      unfold Lib.trimRightS at h1 ⊢
      cases hd : l.reverse.dropWhile (cs.contains ·) with
      | nil => rfl
      | cons a t =>
        rw [hd] at h1
        have := dw_head _ _ hd
        have h3 := h1 a (by simp)
        rw [h3] at this
        cases this
    unfold Lib.trimRightS at h2
    have h3 : l.reverse.dropWhile (cs.contains ·) = [] := by simpa using h2
    rw [List.all_eq_true]
    intro b hb
    exact (dw_nil _ _).mp h3 b (by simpa using hb)
  · intro h
    have h3 : l.reverse.dropWhile (cs.contains ·) = [] := (dw_nil _ _).mpr (fun b hb => (List.all_eq_true.mp h) b (by simpa using hb))
    unfold Lib.trimS Lib.trimRightS Lib.trimLeftS
    rw [h3]; rfl
theorem ten_isD (b : UInt8) : ([48, 49, 50, 51, 52, 53, 54, 55, 56, 57] : D).contains b = isD b := by
  rw [Bool.eq_iff_iff]
  simp only [List.contains_cons, isD, List.contains_nil, Bool.or_eq_true, beq_iff_eq, Bool.and_eq_true, decide_eq_true_eq, ← UInt8.toNat_inj]
  simp
  omega
theorem isDigits_eq (s : ByteArray) (h : s.size ≤ 9223372036854775807) : plan_isDigits.f s = some (digs s.data.toList) := by
  unfold plan_isDigits.f strings_Trim.f
  have hc : (s.size ≤ 9223372036854775807 ∧ (⟨#[48, 49, 50, 51, 52, 53, 54, 55, 56, 57]⟩ : ByteArray).size < 4294967281 ∧ (⟨#[48, 49, 50, 51, 52, 53, 54, 55, 56, 57]⟩ : ByteArray).data.toList.all (fun b => decide (b.toNat < 128)) = true) := ⟨h, by decide, by decide⟩
  rw [if_pos hc]
  simp only [Option.bind_some, Option.some.injEq]
  rw [ByteArray.toList_mk, Bool.eq_iff_iff, beq_iff_eq, trim_nil]
  unfold digs
  have : (fun x => (#[48, 49, 50, 51, 52, 53, 54, 55, 56, 57] : Array UInt8).toList.contains x) = isD := by funext b; exact ten_isD b
  rw [this]
theorem areApart_eq (a b : ByteArray) : plan_areApart.f a b = some (apt a.data.toList b.data.toList) := by
  unfold plan_areApart.f strings_HasPrefix.f Lib.hasPrefix apt
  cases h1 : b.data.toList.isPrefixOf a.data.toList <;> cases h2 : a.data.toList.isPrefixOf b.data.toList <;> simp
theorem begins_eq (a b : ByteArray) : dialtoneref12_begins.f a b = some (a.data.toList.isPrefixOf b.data.toList) := by
  unfold dialtoneref12_begins.f
  have h := Lib.hasPrefix_raw b a
  unfold Lib.hasPrefix at h
  rw [← h]
  by_cases hs : a.size ≤ b.size
  · have : (a.size : Int) ≤ b.size := by omega
    simp [this, hs]
  · have : ¬ (a.size : Int) ≤ b.size := by omega
    simp [this, hs]
theorem apart_eq (a b : ByteArray) : dialtoneref12_apart.f a b = some (apt a.data.toList b.data.toList) := by
  unfold dialtoneref12_apart.f apt
  simp only [begins_eq, Option.bind_some]
  cases h1 : b.data.toList.isPrefixOf a.data.toList <;> cases h2 : a.data.toList.isPrefixOf b.data.toList <;> simp
theorem bt_get (s : ByteArray) (i : Nat) (h : i < s.data.toList.length) : bt s (i : Int) = ((s.data.toList[i]).toNat : Int) := by
  unfold bt
  have hs : ((i : Int).toNat) < s.size := by rw [Lib.size_eq]; simpa using h
  rw [dif_pos hs]
  simp [ByteArray.getElem_eq_getElem_data]
theorem digits_from (s : ByteArray) (hs : s.size ≤ 1000) : ∀ (m i : Nat), m + i = s.size → Ev (fun k => dialtoneref12_digits.l0 k s (i : Int)) (digs (s.data.toList.drop i))
  | 0, i, h => by
    refine Ev.step (fun k => by rw [dialtoneref12_digits.l0]) ?_
    have : ¬ ((i : Int) < s.size) := by omega
    simp only [this, if_false]
    have : s.data.toList.drop i = [] := List.drop_eq_nil_of_le (by rw [← Lib.size_eq]; omega)
    rw [this]
    exact Ev.now _
  | m + 1, i, h => by
    refine Ev.step (fun k => by rw [dialtoneref12_digits.l0]) ?_
    have h1 : ((i : Int) < s.size) := by omega
    have h2 : (0 : Int) ≤ i := by omega
    have hl : i < s.data.toList.length := by rw [← Lib.size_eq]; omega
    have hd : s.data.toList.drop i = s.data.toList[i] :: s.data.toList.drop (i + 1) := List.drop_eq_getElem_cons hl
    have hw : wrap64 ((i : Int) + 1) = ((i + 1 : Nat) : Int) := by rw [w64 (by omega) (by omega)]; rfl
    simp only [h1, h2, if_true, bt_get s i hl, hd, hw]
    have ih := digits_from s hs m (i + 1) (by omega)
    generalize s.data.toList[i] = b at *
    unfold digs at *
    rw [List.all_cons]
    by_cases c1 : (b.toNat : Int) < 48
    · simp only [c1, if_true]
      have : isD b = false := by unfold isD; simp; omega
      rw [this]
      exact Ev.now _
    · by_cases c2 : (b.toNat : Int) > 57
      · simp only [c1, c2, if_true, if_false]
        have : isD b = false := by unfold isD; simp; omega
        rw [this]
        exact Ev.now _
      · simp only [c1, c2, if_false]
        have : isD b = true := by unfold isD; simp; omega
        rw [this, Bool.true_and]
        exact ih
theorem digits_eq (s : ByteArray) (hs : s.size ≤ 1000) : Ev (fun k => dialtoneref12_digits.f k s) (digs s.data.toList) := by
  have := digits_from s hs s.size 0 (by omega)
  simpa [dialtoneref12_digits.f] using this
theorem digs_append (a b : D) : digs (a ++ b) = (digs a && digs b) := by unfold digs; rw [List.all_append]
theorem isWithin_eq (a b c : Int) : plan_isWithin.f a b c = some (decide (b ≤ a) && decide (a ≤ c)) := by
  unfold plan_isWithin.f
  by_cases h : b ≤ a <;> simp [h]
theorem isCode_eq (c : S29) (h0 : c.f0.size ≤ 1000) (h1 : c.f1.size ≤ 1000) : ∀ k, plan_isCode.f (k + 1) c.f0 c.f1 c.f2 = some (oneC c) := by
  intro k
  have e0 : c.f0.size = (co c).length := Lib.size_eq _
  have e1 : c.f1.size = (cn c).length := Lib.size_eq _
  unfold plan_isCode.f
  rw [if_pos (by omega), isDigits_eq _ (by rw [ByteArray.size_append]; omega)]
  have e2 : (c.f0 ++ c.f1).data.toList = co c ++ cn c := by simp [co, cn]
  rw [e2, digs_append]
  simp only [isWithin_eq, Option.bind_some, plan_isCode.j0, areApart_eq, plan_room.f, e0, e1]
  rw [e0] at h0; rw [e1] at h1
  rw [w64 (n := ((co c).length : Int) + 1) (by omega) (by omega), w64 (n := 8 - ((cn c).length : Int)) (by omega) (by omega)]
  show _ = some (oneC c)
  unfold oneC
  by_cases d1 : (digs (co c) && digs (cn c)) = true
  · rw [d1]
    by_cases d2 : (1 ≤ (co c).length ∧ (co c).length ≤ 4)
    · by_cases d3 : (1 ≤ (cn c).length ∧ (cn c).length ≤ 5)
      · by_cases d4 : (((co c).length : Int) < c.f2 ∧ c.f2 ≤ 7)
        · rw [w64 (n := c.f2 - ((co c).length : Int)) (by omega) (by omega)]
          by_cases d5 : c.f2 - ((co c).length : Int) ≤ 8 - ((cn c).length : Int)
          · have a1 : (1 : Int) ≤ (co c).length := by omega
            have a2 : ((co c).length : Int) ≤ 4 := by omega
            have a3 : (1 : Int) ≤ (cn c).length := by omega
            have a4 : ((cn c).length : Int) ≤ 5 := by omega
            have a5 : ((co c).length : Int) + 1 ≤ c.f2 := by omega
            simp [a1, a2, a3, a4, a5, d2, d3, d4, d5]
            rfl
          · have a1 : (1 : Int) ≤ (co c).length := by omega
            have a2 : ((co c).length : Int) ≤ 4 := by omega
            have a3 : (1 : Int) ≤ (cn c).length := by omega
            have a4 : ((cn c).length : Int) ≤ 5 := by omega
            have a5 : ((co c).length : Int) + 1 ≤ c.f2 := by omega
            simp [a1, a2, a3, a4, a5, d2, d3, d4, d5]
        · have a1 : (1 : Int) ≤ (co c).length := by omega
          have a2 : ((co c).length : Int) ≤ 4 := by omega
          have a3 : (1 : Int) ≤ (cn c).length := by omega
          have a4 : ((cn c).length : Int) ≤ 5 := by omega
          have a5 : (decide (((co c).length : Int) + 1 ≤ c.f2) && decide (c.f2 ≤ 7)) = false := by simp; omega
          have a6 : decide (1 ≤ (co c).length ∧ (co c).length ≤ 4 ∧ 1 ≤ (cn c).length ∧ (cn c).length ≤ 5 ∧ ((co c).length : Int) < c.f2 ∧ c.f2 ≤ 7 ∧ c.f2 - (co c).length ≤ 8 - (cn c).length) = false := by simp; omega
          simp only [a5, a6]
          simp [a1, a2, a3, a4]
      · have a1 : (1 : Int) ≤ (co c).length := by omega
        have a2 : ((co c).length : Int) ≤ 4 := by omega
        have a5 : (decide (1 ≤ ((cn c).length : Int)) && decide (((cn c).length : Int) ≤ 5)) = false := by simp; omega
        have a6 : decide (1 ≤ (co c).length ∧ (co c).length ≤ 4 ∧ 1 ≤ (cn c).length ∧ (cn c).length ≤ 5 ∧ ((co c).length : Int) < c.f2 ∧ c.f2 ≤ 7 ∧ c.f2 - (co c).length ≤ 8 - (cn c).length) = false := by simp; omega
        simp only [a5, a6]
        simp [a1, a2]
    · have a5 : (decide (1 ≤ ((co c).length : Int)) && decide (((co c).length : Int) ≤ 4)) = false := by simp; omega
      have a6 : decide (1 ≤ (co c).length ∧ (co c).length ≤ 4 ∧ 1 ≤ (cn c).length ∧ (cn c).length ≤ 5 ∧ ((co c).length : Int) < c.f2 ∧ c.f2 ≤ 7 ∧ c.f2 - (co c).length ≤ 8 - (cn c).length) = false := by simp; omega
      simp only [a5, a6]
      simp
  · simp only [d1]
    simp
theorem one_ev (c : S29) (h0 : c.f0.size ≤ 1000) (h1 : c.f1.size ≤ 1000) : Ev (fun k => dialtoneref12_one.f k c.f0 c.f1 c.f2) (oneC c) := by
  have e0 : c.f0.size = (co c).length := Lib.size_eq _
  have e1 : c.f1.size = (cn c).length := Lib.size_eq _
  unfold dialtoneref12_one.f
  refine Ev.bind (digits_eq _ h0) ?_
  simp only [apart_eq, e0, e1, Option.bind_some]
  rw [e0] at h0; rw [e1] at h1
  show Ev _ (oneC c)
  unfold oneC
  cases hd : digs (co c) with
  | false =>
    have : digs c.f0.data.toList = false := hd
    simp only [this]
    simp
    exact Ev.now _
  | true =>
    have hd' : digs c.f0.data.toList = true := hd
    simp only [hd', if_true]
    refine Ev.bind (digits_eq _ (by rw [e1]; exact h1)) ?_
    cases hn : digs (cn c) with
    | false =>
      have : digs c.f1.data.toList = false := hn
      simp only [this]
      simp
      exact Ev.now _
    | true =>
      have hn' : digs c.f1.data.toList = true := hn
      simp only [hn', if_true]
      refine ⟨0, fun k _ => ?_⟩
      rw [w64 (n := 8 - ((cn c).length : Int)) (by omega) (by omega)]
      split
      · have a6 : decide (1 ≤ (co c).length ∧ (co c).length ≤ 4 ∧ 1 ≤ (cn c).length ∧ (cn c).length ≤ 5 ∧ ((co c).length : Int) < c.f2 ∧ c.f2 ≤ 7 ∧ c.f2 - (co c).length ≤ 8 - (cn c).length) = false := by simp; omega
        simp [a6]
      split
      · have a6 : decide (1 ≤ (co c).length ∧ (co c).length ≤ 4 ∧ 1 ≤ (cn c).length ∧ (cn c).length ≤ 5 ∧ ((co c).length : Int) < c.f2 ∧ c.f2 ≤ 7 ∧ c.f2 - (co c).length ≤ 8 - (cn c).length) = false := by simp; omega
        simp [a6]
      split
      · have a6 : decide (1 ≤ (co c).length ∧ (co c).length ≤ 4 ∧ 1 ≤ (cn c).length ∧ (cn c).length ≤ 5 ∧ ((co c).length : Int) < c.f2 ∧ c.f2 ≤ 7 ∧ c.f2 - (co c).length ≤ 8 - (cn c).length) = false := by simp; omega
        simp [a6]
      split
      · have a6 : decide (1 ≤ (co c).length ∧ (co c).length ≤ 4 ∧ 1 ≤ (cn c).length ∧ (cn c).length ≤ 5 ∧ ((co c).length : Int) < c.f2 ∧ c.f2 ≤ 7 ∧ c.f2 - (co c).length ≤ 8 - (cn c).length) = false := by simp; omega
        simp [a6]
      split
      · split
        · rw [w64 (n := c.f2 - ((co c).length : Int)) (by omega) (by omega)]
          split
          · have a6 : decide (1 ≤ (co c).length ∧ (co c).length ≤ 4 ∧ 1 ≤ (cn c).length ∧ (cn c).length ≤ 5 ∧ ((co c).length : Int) < c.f2 ∧ c.f2 ≤ 7 ∧ c.f2 - (co c).length ≤ 8 - (cn c).length) = true := by simp; omega
            rw [a6]; rfl
          · have a6 : decide (1 ≤ (co c).length ∧ (co c).length ≤ 4 ∧ 1 ≤ (cn c).length ∧ (cn c).length ≤ 5 ∧ ((co c).length : Int) < c.f2 ∧ c.f2 ≤ 7 ∧ c.f2 - (co c).length ≤ 8 - (cn c).length) = false := by simp; omega
            simp [a6]
        · have a6 : decide (1 ≤ (co c).length ∧ (co c).length ≤ 4 ∧ 1 ≤ (cn c).length ∧ (cn c).length ≤ 5 ∧ ((co c).length : Int) < c.f2 ∧ c.f2 ≤ 7 ∧ c.f2 - (co c).length ≤ 8 - (cn c).length) = false := by simp; omega
          simp [a6]
      · have a6 : decide (1 ≤ (co c).length ∧ (co c).length ≤ 4 ∧ 1 ≤ (cn c).length ∧ (cn c).length ≤ 5 ∧ ((co c).length : Int) < c.f2 ∧ c.f2 ≤ 7 ∧ c.f2 - (co c).length ≤ 8 - (cn c).length) = false := by simp; omega
        simp [a6]
end Go.Proofs.YtlmfoblgheepoaaGreatDoor.Pure
end
section
namespace Go.Proofs.YtlmfoblgheepoaaGreatDoor.Pure
open Go.RowKit Go.Proofs.YtlmfoblgheepoaaGreatDoorW.PrintWords Go.Proofs.YtlmfoblgheepoaaGreatDoorW.PrintLast Go.Proofs.YtlmfoblgheepoaaGreatDoorW.PrintMore Go.Proofs.YtlmfoblgheepoaaGreatDoor.Pl
set_option linter.unusedVariables false
set_option linter.unusedSimpArgs false
def smallP (p : List S29) : Prop := ∀ c ∈ p, c.f0.size ≤ 1000 ∧ c.f1.size ≤ 1000
def pgo : List S29 → List S29 → Bool
  | _, [] => true
  | done, c :: r => done.all (dif c) && pgo (done ++ [c]) r
theorem vgo_pgo : ∀ (rest done : List S29), vgo done rest = (rest.all oneC && pgo done rest)
  | [], _ => rfl
  | c :: r, done => by
    rw [vgo, pgo, vgo_pgo r, List.all_cons]
    cases oneC c <;> cases done.all (dif c) <;> cases r.all oneC <;> rfl
theorem rd29 (p : List S29) (i : Nat) (h : i < p.length) : rd_T29 p (i : Int) = p[i] := by
  unfold rd_T29; simp [h]
theorem drop_at {α : Type} (p : List α) (i : Nat) (h : i < p.length) : p.drop i = p[i] :: p.drop (i + 1) := List.drop_eq_getElem_cons h
theorem take_at {α : Type} (p : List α) (i : Nat) (h : i < p.length) : p.take i ++ [p[i]] = p.take (i + 1) := by rw [List.take_succ_eq_append_getElem h]
theorem wi (i : Nat) (h : i < 3518437208883) : wrap64 ((i : Int) + 1) = ((i + 1 : Nat) : Int) := by rw [w64 (by omega) (by omega)]; rfl
theorem dif_eq (c d : S29) : plan_Valid_1.f c.f0 c.f1 c.f2 d.f0 d.f1 d.f2 = some (dif c d) := by
  unfold plan_Valid_1.f dif
  simp only [areApart_eq, Option.bind_some]
  show (if apt (co c) (co d) = true then if apt (cn c) (cn d) = true then if apt (co c) (cn d) = true then some (apt (cn c) (co d)) else some false else some false else some false) = _
  cases apt (co c) (co d) <;> cases apt (cn c) (cn d) <;> cases apt (co c) (cn d) <;> simp
theorem all_in (p : List S29) (c : S29) (i : Int) (y : List S29) (hy : y.length < 3518437208883) (R : Bool) (h : Ev (fun k => api_Code.l0 k p p (p.length : Int) (wrap64 (i + 1))) R) :
    ∀ m j : Nat, m + j = y.length → Ev (fun k => api_Code.l1 k p p (p.length : Int) i y (y.length : Int) (j : Int) c.f0 c.f1 c.f2) ((y.drop j).all (dif c) && R)
  | 0, j, hj => by
    refine Ev.step (fun k => by rw [api_Code.l1]) ?_
    have h1 : ¬ ((j : Int) < y.length) := by omega
    simp only [h1, if_false]
    rw [List.drop_eq_nil_of_le (by omega)]
    simpa using h
  | m + 1, j, hj => by
    refine Ev.step (fun k => by rw [api_Code.l1]) ?_
    have h1 : ((j : Int) < y.length) := by omega
    have h2 : (0 : Int) ≤ j := by omega
    have hl : j < y.length := by omega
    simp only [h1, h2, if_true, rd29 y j hl, dif_eq, Option.bind_some, wi j (by omega), drop_at y j hl, List.all_cons]
    cases hd : dif c y[j] with
    | true =>
      simp only [if_true, Bool.true_and]
      exact all_in p c i y hy R h m (j + 1) (by omega)
    | false =>
      simp
      exact Ev.now _
theorem all_out (p : List S29) (hp : p.length < 3518437208883) : ∀ m i : Nat, m + i = p.length → Ev (fun k => api_Code.l0 k p p (p.length : Int) (i : Int)) (pgo (p.take i) (p.drop i))
  | 0, i, hi => by
    refine Ev.step (fun k => by rw [api_Code.l0]) ?_
    have h1 : ¬ ((i : Int) < p.length) := by omega
    simp only [h1, if_false]
    rw [List.drop_eq_nil_of_le (by omega)]
    exact Ev.now _
  | m + 1, i, hi => by
    refine Ev.step (fun k => by rw [api_Code.l0]) ?_
    have h1 : ((i : Int) < p.length) := by omega
    have h2 : (0 : Int) ≤ i := by omega
    have h3 : ((i : Int) ≤ p.length) := by omega
    have hl : i < p.length := by omega
    simp only [h1, h2, h3, if_true, rd29 p i hl, Option.bind_some, Int.toNat_natCast, drop_at p i hl, pgo]
    have ih := all_out p hp m (i + 1) (by omega)
    rw [← wi i (by omega)] at ih
    have := all_in p p[i] (i : Int) (p.take i) (by rw [List.length_take]; omega) _ ih (p.take i).length 0 (by simp)
    rw [List.drop_zero, ← take_at p i hl] at this
    exact this
theorem code_ev (p : List S29) (hp : p.length < 3518437208883) : Ev (fun k => api_Code.f k p ()) (pgo [] p) := by
  have := all_out p hp p.length 0 (by omega)
  simpa [api_Code.f] using this
theorem valid_from (p : List S29) (hp : p.length < 3518437208883) (hs : smallP p) : ∀ m i : Nat, m + i = p.length → Ev (fun k => plan_Valid.l0 k p p (p.length : Int) (i : Int)) ((p.drop i).all oneC && (decide (p.length ≤ 20) && pgo [] p))
  | 0, i, hi => by
    refine Ev.step (fun k => by rw [plan_Valid.l0]) ?_
    have h1 : ¬ ((i : Int) < p.length) := by omega
    simp only [h1, if_false]
    rw [List.drop_eq_nil_of_le (by omega)]
    by_cases h : p.length ≤ 20
    · have h' : (p.length : Int) ≤ 20 := by omega
      simp only [h', if_true, h]
      refine Ev.bind (code_ev p hp) ?_
      simp
      exact Ev.now _
    · have h' : ¬ (p.length : Int) ≤ 20 := by omega
      simp only [h', if_false, h]
      simp
      exact Ev.now _
  | m + 1, i, hi => by
    have h1 : ((i : Int) < p.length) := by omega
    have h2 : (0 : Int) ≤ i := by omega
    have hl : i < p.length := by omega
    have hc := hs p[i] (List.getElem_mem hl)
    refine Ev.step (fun k => by rw [plan_Valid.l0]) ?_
    simp only [h1, h2, if_true, rd29 p i hl, wi i (by omega), drop_at p i hl, List.all_cons]
    refine Ev.bind (Ev.step (fun k => isCode_eq p[i] hc.1 hc.2 k) (Ev.now _)) ?_
    cases oneC p[i] with
    | true =>
      simp only [if_true, Bool.true_and]
      exact valid_from p hp hs m (i + 1) (by omega)
    | false =>
      simp
      exact Ev.now _
theorem valid_ev (p : List S29) (hp : p.length < 3518437208883) (hs : smallP p) : Ev (fun k => plan_Valid.f k p) (vp p) := by
  have := valid_from p hp hs p.length 0 (by omega)
  have e : vp p = ((p.drop 0).all oneC && (decide (p.length ≤ 20) && pgo [] p)) := by
    unfold vp
    rw [vgo_pgo, List.drop_zero]
    cases decide (p.length ≤ 20) <;> cases p.all oneC <;> rfl
  rw [e]
  simpa [plan_Valid.f] using this
theorem rvalid_in (p : List S29) (i : Nat) (hi : i < p.length) (hp : p.length < 3518437208883) (R : Bool) (h : Ev (fun k => dialtoneref12_Valid.l0 k p (wrap64 ((i : Int) + 1))) R) :
    ∀ m j : Nat, m + j = i → Ev (fun k => dialtoneref12_Valid.l1 k p (i : Int) (j : Int)) (((p.take i).drop j).all (dif p[i]) && R)
  | 0, j, hj => by
    refine Ev.step (fun k => by rw [dialtoneref12_Valid.l1]) ?_
    have h1 : ¬ ((j : Int) < i) := by omega
    simp only [h1, if_false]
    rw [List.drop_eq_nil_of_le (by rw [List.length_take]; omega)]
    simpa using h
  | m + 1, j, hj => by
    refine Ev.step (fun k => by rw [dialtoneref12_Valid.l1]) ?_
    have h1 : ((j : Int) < i) := by omega
    have h2 : (0 : Int) ≤ j := by omega
    have h3 : ((i : Int) < p.length) := by omega
    have h4 : (0 : Int) ≤ i := by omega
    have h5 : ((j : Int) < p.length) := by omega
    have hl : j < (p.take i).length := by rw [List.length_take]; omega
    have hj' : j < p.length := by omega
    simp only [h1, h2, h3, h4, h5, if_true, rd29 p j hj', rd29 p i hi, apart_eq, Option.bind_some, wi j (by omega), drop_at (p.take i) j hl, List.all_cons, List.getElem_take]
    have ih := rvalid_in p i hi hp R h m (j + 1) (by omega)
    have e : dif p[i] p[j] = (apt p[i].f0.data.toList p[j].f0.data.toList && (apt p[i].f1.data.toList p[j].f1.data.toList && (apt p[i].f0.data.toList p[j].f1.data.toList && apt p[i].f1.data.toList p[j].f0.data.toList))) := rfl
    rw [e]
    cases apt p[i].f0.data.toList p[j].f0.data.toList with
    | false => simp; exact Ev.now _
    | true => cases apt p[i].f1.data.toList p[j].f1.data.toList with
      | false => simp; exact Ev.now _
      | true => cases apt p[i].f0.data.toList p[j].f1.data.toList with
        | false => simp; exact Ev.now _
        | true => cases apt p[i].f1.data.toList p[j].f0.data.toList with
          | false => simp; exact Ev.now _
          | true => simp only [if_true, Bool.true_and]; exact ih
theorem rvalid_from (p : List S29) (hp : p.length < 3518437208883) (hs : smallP p) : ∀ m i : Nat, m + i = p.length → Ev (fun k => dialtoneref12_Valid.l0 k p (i : Int)) (vgo (p.take i) (p.drop i))
  | 0, i, hi => by
    refine Ev.step (fun k => by rw [dialtoneref12_Valid.l0]) ?_
    have h1 : ¬ ((i : Int) < p.length) := by omega
    simp only [h1, if_false]
    rw [List.drop_eq_nil_of_le (by omega)]
    exact Ev.now _
  | m + 1, i, hi => by
    have h1 : ((i : Int) < p.length) := by omega
    have h2 : (0 : Int) ≤ i := by omega
    have hl : i < p.length := by omega
    have hc := hs p[i] (List.getElem_mem hl)
    refine Ev.step (fun k => by rw [dialtoneref12_Valid.l0]) ?_
    simp only [h1, h2, if_true, rd29 p i hl, drop_at p i hl, vgo]
    refine Ev.bind (one_ev p[i] hc.1 hc.2) ?_
    cases oneC p[i] with
    | true =>
      simp only [if_true, Bool.true_and]
      have ih := rvalid_from p hp hs m (i + 1) (by omega)
      rw [← wi i (by omega)] at ih
      have := rvalid_in p i hl hp _ ih i 0 (by omega)
      rw [List.drop_zero, ← take_at p i hl] at this
      exact this
    | false =>
      simp
      exact Ev.now _
theorem rvalid_ev (p : List S29) (hp : p.length < 3518437208883) (hs : smallP p) : Ev (fun k => dialtoneref12_Valid.f k p) (vp p) := by
  unfold dialtoneref12_Valid.f vp
  by_cases h : p.length ≤ 20
  · have h' : ¬ (p.length : Int) > 20 := by omega
    simp only [h', if_false, h]
    have := rvalid_from p hp hs p.length 0 (by omega)
    simpa using this
  · have h' : (p.length : Int) > 20 := by omega
    simp only [h', if_true, h]
    simp
    exact Ev.now _
end Go.Proofs.YtlmfoblgheepoaaGreatDoor.Pure
end
