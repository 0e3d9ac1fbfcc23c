/- Uq: part 11 of the proof that the law's row holds: the printed walk of the program's functions, the plain law, the row. -/
import Derived.Test.YtlmfoblgheepoaaGreatDoorQUq9
section
open Go.Proofs.YtlmfoblgheepoaaGreatDoor.Z
namespace Go.Proofs.YtlmfoblgheepoaaGreatDoor.Pl
open Go.RowKit Go.Proofs.YtlmfoblgheepoaaGreatDoorW.PrintWords Go.Proofs.YtlmfoblgheepoaaGreatDoorW.PrintLast Go.Proofs.YtlmfoblgheepoaaGreatDoorW.PrintMore
attribute [local go_sem] max2_int min2_int max_two min_two max_three min_three max_four min_four
set_option linter.unusedVariables false
set_option linter.unusedSimpArgs false
def dialtoneref12_pick.f (a0 : Int) (a1 : Int) : Option (Int) := if a0 < 0 then (if a1 = 0 then (none) else (some (Int.tmod (wrap64 (-(wrap64 (a0 + 1)))) a1))) else (if a1 = 0 then (none) else (some (Int.tmod a0 a1)))
set_option maxHeartbeats 8000000 in
set_option maxRecDepth 100000 in
theorem dialtoneref12_pick.calls (a0 : Int) (a1 : Int) (r : Int) (w : World) (h : dialtoneref12_pick.f a0 a1 = some r) :
 Calls Tryz.prog 33 #[.int .i64 a0, .int .i64 a1] w fun e w' => e = .returned (.int .i64 r) ∧ Drawn0 w w' := by
 have H : (if a0 < 0 then (if a1 = 0 then (none) else (some (Int.tmod (wrap64 (-(wrap64 (a0 + 1)))) a1))) else (if a1 = 0 then (none) else (some (Int.tmod a0 a1)))) = some r := h
 clear h
 by_cases c3 : a0 < 0
 ·rw [if_pos c3] at H
  have c3b0 : decide (a0 < 0) = true := decide_eq_true c3
  clear c3
  by_cases c4 : a1 = 0
  ·rw [if_pos c4] at H
   exact absurd H (by simp)
  ·rw [if_neg c4] at H
   have c4b0 : (a1 == 0) = false := beq_eq_false_iff_ne.mpr c4
   have c4b1 : (a1 != 0) = true := bne_iff_ne.mpr c4
   obtain rfl := Option.some.inj H
   go_enter Tryz.func33, Tryz.ntmps33
   go_wp2
   go_ret
   exact ⟨by first | rfl | (simp; done) | (simp [*]; done), by repeat (first | exact Drawn0.refl _ | apply Drawn0.step)⟩
 ·rw [if_neg c3] at H
  have c3b0 : decide (a0 < 0) = false := decide_eq_false c3
  clear c3
  by_cases c5 : a1 = 0
  ·rw [if_pos c5] at H
   exact absurd H (by simp)
  ·rw [if_neg c5] at H
   have c5b0 : (a1 == 0) = false := beq_eq_false_iff_ne.mpr c5
   have c5b1 : (a1 != 0) = true := bne_iff_ne.mpr c5
   obtain rfl := Option.some.inj H
   go_enter Tryz.func33, Tryz.ntmps33
   go_wp2
   go_ret
   exact ⟨by first | rfl | (simp; done) | (simp [*]; done), by repeat (first | exact Drawn0.refl _ | apply Drawn0.step)⟩
def dialtoneref12_prefix.l0 : Nat → Int → Int → ByteArray → Int → Option (ByteArray)
 | 0, _, _, _, _ => none
 | k + 1, x0, x1, x5, x6 => if x6 < x1 then ((some (([(wrap64 (48 + (Int.tmod x0 10))) % 256] : List Int) : List Int)).bind fun y238 => (if x5.size + (strOfNums y238).size ≤ 9223372036854775807 then (dialtoneref12_prefix.l0 k (wrap64 (Int.tdiv x0 10)) x1 (x5 ++ (strOfNums y238)) (wrap64 (x6 + 1))) else (none))) else (some x5)
def dialtoneref12_prefix.f (k : Nat) (a0 : Int) (a1 : Int) : Option (ByteArray) := dialtoneref12_prefix.l0 k a0 a1 (⟨#[]⟩ : ByteArray) 0
set_option maxHeartbeats 8000000 in
set_option maxRecDepth 100000 in
theorem dialtoneref12_prefix.calls (k : Nat) (a0 : Int) (a1 : Int) (r : ByteArray) (w : World) (h : dialtoneref12_prefix.f k a0 a1 = some r) :
 Calls Tryz.prog 34 #[.int .i64 a0, .int .i64 a1] w fun e w' => e = .returned (.string r) ∧ Below w.heap.size w w' := by
 have HB := Aside0.mk (Below.refl w.heap.size w)
 have H : (dialtoneref12_prefix.l0 k a0 a1 (⟨#[]⟩ : ByteArray) 0) = some r := h
 clear h
 have H' := Aside0.mk H
 clear H
 go_enter Tryz.func34, Tryz.ntmps34
 go_wp2
 go_loopg [0, 5, 6] k (fun kq v0 v5 v6 w' => ∃ (x0_1 : Int) (x5_1 : ByteArray) (x6_1 : Int), v0 = .int .i64 x0_1 ∧ v5 = .string x5_1 ∧ v6 = .int .i64 x6_1 ∧ Aside0 (dialtoneref12_prefix.l0 kq x0_1 a1 x5_1 x6_1 = some r) ∧ Aside0 (kq ≤ k) ∧ Aside0 (Below w.heap.size w w'))
 case atStart => exact ⟨(a0), ((⟨#[]⟩ : ByteArray)), (0), (zq6), (zq6), (zq6), H', ⟨Nat.le_refl _⟩, ⟨by repeat (first | (with_reducible first | exact HB.out | apply below_alloc | apply pw_below_drewN | apply below_drew1) | exact HB.out)⟩⟩
 case round =>
  clear H'
  try clear p2
  obtain ⟨x0_1, x5_1, x6_1, rfl, rfl, rfl, HA, HK1, HB⟩ := hrel
  cases gk with
  | zero => exact absurd HA.out (by simp [dialtoneref12_prefix.l0])
  | succ k1 =>
   have H := HA.out
   clear HA
   simp only [dialtoneref12_prefix.l0] at H
   by_cases c3 : x6_1 < a1
   ·rw [if_pos c3] at H
    have c3b0 : decide (x6_1 < a1) = true := decide_eq_true c3
    clear c3
    obtain ⟨y238, hy238⟩ : ∃ y_ : List Int, y_ = (([(wrap64 (48 + (Int.tmod x0_1 10))) % 256] : List Int)) := ⟨_, rfl⟩
    replace H : (if x5_1.size + (strOfNums y238).size ≤ 9223372036854775807 then (dialtoneref12_prefix.l0 k1 (wrap64 (Int.tdiv x0_1 10)) a1 (x5_1 ++ (strOfNums y238)) (wrap64 (x6_1 + 1))) else (none)) = some r := by first | (rw [hy238]; with_reducible exact H) | (have H2_ := (Option.bind_some _ _).symm.trans H; rw [hy238]; with_reducible exact H2_) | (have H2_ := (Option.bind_some _ _).symm.trans H; with_reducible exact H2_) | with_reducible exact H | (rw [hy238]; exact H) | exact H
    have Ny238 := Aside0.mk hy238
    clear hy238
    by_cases c4 : x5_1.size + (strOfNums y238).size ≤ 9223372036854775807
    ·rw [if_pos c4] at H
     have c4b0 := eq_true c4
     have c4b1 : decide (x5_1.size + (strOfNums y238).size ≤ 9223372036854775807) = true := decide_eq_true c4
     try have c4b2 : (9223372036854775807 < x5_1.size + (strOfNums y238).size) = False := eq_false (Nat.not_lt.2 c4)
     have H' := Aside0.mk H
     clear H
     go_wp2_with (first | ((with_reducible refine gate_dst (N := 17) rfl ?_); refine Kd.R_lit (Kd.int .u8) _ 5 ?hg (N := 17) ?hd (xs := ([(wrap64 (48 + (Int.tmod x0_1 10))) % 256] : List Int)) (inner := [.int .u8 ((wrap64 (48 + (Int.tmod x0_1 10))) % 256)]) (ok := fun _ => True) (okp := fun _ => True) ?hr ?hp (fun _ hk => hk) trivial (Below.refl _ _) (Nat.le_refl _) (by simp) ?_; (case hd => rfl); (case hg => rfl); (case hr => exact zq0); (case hp => exact (Reps.one (show Kd.M (Kd.int .u8) _ _ _ ((wrap64 (48 + (Int.tmod x0_1 10))) % 256) [.int .u8 ((wrap64 (48 + (Int.tmod x0_1 10))) % 256)] from rfl) (Reps.none _ _))); intro v239 w5 ho6 hb hg_ hnew_; clear hg_ hnew_; (first | rw [← Ny238.out] at ho6 | (simp only [Int.reduceToNat] at ho6; rw [← Ny238.out] at ho6)); have n0_ := Aside0.mk (Kd.R_lower ho6 (below_size (zq1))); have n1_ := Aside0.mk (below_step (zq1) hb); clear HB; have HO240 := n0_; have HB := n1_; clear n0_ n1_; clear hb ho6; have hcv7 := own_string (P := Tryz.prog) Tryz.underlying65 Tryz.underlying5 Tryz.underlying9 (Kd.own_of_R HO240.out)))
     go_roundg k1
     case measure => have := HK1.out; omega
     case rel => exact ⟨(wrap64 (Int.tdiv x0_1 10)), (x5_1 ++ (strOfNums y238)), (wrap64 (x6_1 + 1)), (zq6), (zq6), (zq6), H', ⟨by have := HK1.out; omega⟩, ⟨by repeat (first | (with_reducible first | exact HB.out | apply below_alloc | apply pw_below_drewN | apply below_drew1) | exact HB.out)⟩⟩
    ·rw [if_neg c4] at H
     exact absurd H (by simp)
   ·rw [if_neg c3] at H
    have c3b0 : decide (x6_1 < a1) = false := decide_eq_false c3
    clear c3
    obtain rfl := Option.some.inj H
    go_wp2
    go_ret
    exact ⟨by first | rfl | (simp [errW_none, errW_some] <;> rfl) | (simp [*, errW_none, errW_some] <;> rfl), by repeat (first | (with_reducible first | exact HB.out | apply below_alloc | apply pw_below_drewN | apply below_drew1) | exact HB.out)⟩
end Go.Proofs.YtlmfoblgheepoaaGreatDoor.Pl
end
section
open Go.Proofs.YtlmfoblgheepoaaGreatDoor.Z
namespace Go.Proofs.YtlmfoblgheepoaaGreatDoor.Pl
open Go.RowKit Go.Proofs.YtlmfoblgheepoaaGreatDoorW.PrintWords Go.Proofs.YtlmfoblgheepoaaGreatDoorW.PrintLast Go.Proofs.YtlmfoblgheepoaaGreatDoorW.PrintMore
attribute [local go_sem] max2_int min2_int max_two min_two max_three min_three max_four min_four
set_option linter.unusedVariables false
set_option linter.unusedSimpArgs false
def dialtoneref12_One.f (k : Nat) (a0_0 : Int) (a0_1 : Int) (a0_2 : Int) : Option (ByteArray × ByteArray × Int) := (dialtoneref12_pick.f (wrap64 (Int.tdiv a0_0 3)) 1000).bind fun t243 => ((dialtoneref12_pick.f a0_0 3).bind fun t244 => ((dialtoneref12_prefix.f k t243 (wrap64 (1 + t244))).bind fun t245 => ((dialtoneref12_pick.f (wrap64 (Int.tdiv a0_1 3)) 1000).bind fun t246 => ((dialtoneref12_pick.f a0_1 3).bind fun t247 => ((dialtoneref12_prefix.f k t246 (wrap64 (1 + t247))).bind fun t248 => ((dialtoneref12_pick.f a0_2 (mn (wrap64 (7 - (t245.size : Int))) (wrap64 (8 - (t248.size : Int))))).bind fun t250 => (some (t245, t248, wrap64 ((wrap64 ((t245.size : Int) + 1)) + t250)))))))))
def dialtoneref12_One.T1 : Bool × List (List Nat × List Nat) := (true, [([], []), ([0], [0]), ([1], [1]), ([2], [2]), ([], []), ([4], [4]), ([5, 3], [5]), ([6], [6]), ([3, 7, 6], [3, 7]), ([], []), ([9], [9]), ([10], [10]), ([11, 8], [11]), ([], []), ([13], [13]), ([14, 12], [14]), ([15], [15]), ([12, 16, 15], [12, 16]), ([8, 17], [8, 17]), ([], []), ([19, 18, 17, 0, 1, 2, 3, 4, 5, 6, 7, 8, 9, 10, 11, 12, 13, 14, 15, 16, 17, 18, 19], [18, 19])])
def dialtoneref12_One.B1 : List Nat := [0, 1, 3, 7, 0, 16, 63, 127, 255, 0, 512, 1536, 4095, 0, 8192, 32767, 65535, 131071, 262143, 0, 1048575]
theorem dialtoneref12_One.tab1 : rtab .any (opsOf Tryz.f29 1) = dialtoneref12_One.T1 := by kernel_rfl
theorem dialtoneref12_One.bits1 : waitsOk dialtoneref12_One.T1.2 dialtoneref12_One.B1 = true := by kernel_rfl
def dialtoneref12_One.T2 : Bool × List (List Nat × List Nat) := (true, [([], []), ([0], [0]), ([1], [1]), ([2], [2]), ([], []), ([4], [4]), ([], []), ([6], [6]), ([7], [7]), ([8], [8]), ([], []), ([10], [10]), ([11], [11]), ([12], [12]), ([9, 13], [9, 13]), ([5, 14], [5, 14]), ([3, 15], [3, 15]), ([0, 1, 2, 3, 4, 5, 6, 7, 8, 9, 10, 11, 12, 13, 14, 15, 16], []), ([17, 16, 15, 0, 1, 2, 3, 4, 5, 6, 7, 8, 9, 10, 11, 12, 13, 14, 15, 16], [16, 17])])
def dialtoneref12_One.B2 : List Nat := [0, 1, 3, 7, 0, 16, 0, 64, 192, 448, 0, 1024, 3072, 7168, 16320, 32752, 65535, 131071, 262143]
theorem dialtoneref12_One.tab2 : rtab .any (opsOf Tryz.f29 2) = dialtoneref12_One.T2 := by kernel_rfl
theorem dialtoneref12_One.bits2 : waitsOk dialtoneref12_One.T2.2 dialtoneref12_One.B2 = true := by kernel_rfl
set_option maxHeartbeats 8000000 in
set_option maxRecDepth 100000 in
theorem dialtoneref12_One.calls (k : Nat) (a0_0 : Int) (a0_1 : Int) (a0_2 : Int) (r1 : ByteArray) (r2 : ByteArray) (r3 : Int) (w : World) (h : dialtoneref12_One.f k a0_0 a0_1 a0_2 = some (r1, r2, r3)) :
 Calls Tryz.prog 29 #[.agg #[.int .i64 a0_0, .int .i64 a0_1, .int .i64 a0_2]] w fun e w' => e = .returned (.agg #[.string r1, .string r2, .int .i64 r3]) ∧ Below w.heap.size w w' := by
 have hu23 := Tryz.underlying23
 have hu29 := Tryz.underlying29
 have HB := Aside0.mk (Below.refl w.heap.size w)
 have H : ((dialtoneref12_pick.f (wrap64 (Int.tdiv a0_0 3)) 1000).bind fun t243 => ((dialtoneref12_pick.f a0_0 3).bind fun t244 => ((dialtoneref12_prefix.f k t243 (wrap64 (1 + t244))).bind fun t245 => ((dialtoneref12_pick.f (wrap64 (Int.tdiv a0_1 3)) 1000).bind fun t246 => ((dialtoneref12_pick.f a0_1 3).bind fun t247 => ((dialtoneref12_prefix.f k t246 (wrap64 (1 + t247))).bind fun t248 => ((dialtoneref12_pick.f a0_2 (mn (wrap64 (7 - (t245.size : Int))) (wrap64 (8 - (t248.size : Int))))).bind fun t250 => (some (t245, t248, wrap64 ((wrap64 ((t245.size : Int) + 1)) + t250)))))))))) = some (r1, r2, r3) := h
 clear h
 replace H := Option.bind_eq_some_iff.mp H
 obtain ⟨t243, A20, H⟩ := H
 replace H : ((dialtoneref12_pick.f a0_0 3).bind fun t244 => ((dialtoneref12_prefix.f k t243 (wrap64 (1 + t244))).bind fun t245 => ((dialtoneref12_pick.f (wrap64 (Int.tdiv a0_1 3)) 1000).bind fun t246 => ((dialtoneref12_pick.f a0_1 3).bind fun t247 => ((dialtoneref12_prefix.f k t246 (wrap64 (1 + t247))).bind fun t248 => ((dialtoneref12_pick.f a0_2 (mn (wrap64 (7 - (t245.size : Int))) (wrap64 (8 - (t248.size : Int))))).bind fun t250 => (some (t245, t248, wrap64 ((wrap64 ((t245.size : Int) + 1)) + t250))))))))) = some (r1, r2, r3) := H
 have A2 := Aside0.mk A20
 clear A20
 replace H := Option.bind_eq_some_iff.mp H
 obtain ⟨t244, A30, H⟩ := H
 replace H : ((dialtoneref12_prefix.f k t243 (wrap64 (1 + t244))).bind fun t245 => ((dialtoneref12_pick.f (wrap64 (Int.tdiv a0_1 3)) 1000).bind fun t246 => ((dialtoneref12_pick.f a0_1 3).bind fun t247 => ((dialtoneref12_prefix.f k t246 (wrap64 (1 + t247))).bind fun t248 => ((dialtoneref12_pick.f a0_2 (mn (wrap64 (7 - (t245.size : Int))) (wrap64 (8 - (t248.size : Int))))).bind fun t250 => (some (t245, t248, wrap64 ((wrap64 ((t245.size : Int) + 1)) + t250)))))))) = some (r1, r2, r3) := H
 have A3 := Aside0.mk A30
 clear A30
 replace H := Option.bind_eq_some_iff.mp H
 obtain ⟨t245, A40, H⟩ := H
 replace H : ((dialtoneref12_pick.f (wrap64 (Int.tdiv a0_1 3)) 1000).bind fun t246 => ((dialtoneref12_pick.f a0_1 3).bind fun t247 => ((dialtoneref12_prefix.f k t246 (wrap64 (1 + t247))).bind fun t248 => ((dialtoneref12_pick.f a0_2 (mn (wrap64 (7 - (t245.size : Int))) (wrap64 (8 - (t248.size : Int))))).bind fun t250 => (some (t245, t248, wrap64 ((wrap64 ((t245.size : Int) + 1)) + t250))))))) = some (r1, r2, r3) := H
 have A4 := Aside0.mk A40
 clear A40
 replace H := Option.bind_eq_some_iff.mp H
 obtain ⟨t246, A50, H⟩ := H
 replace H : ((dialtoneref12_pick.f a0_1 3).bind fun t247 => ((dialtoneref12_prefix.f k t246 (wrap64 (1 + t247))).bind fun t248 => ((dialtoneref12_pick.f a0_2 (mn (wrap64 (7 - (t245.size : Int))) (wrap64 (8 - (t248.size : Int))))).bind fun t250 => (some (t245, t248, wrap64 ((wrap64 ((t245.size : Int) + 1)) + t250)))))) = some (r1, r2, r3) := H
 have A5 := Aside0.mk A50
 clear A50
 replace H := Option.bind_eq_some_iff.mp H
 obtain ⟨t247, A60, H⟩ := H
 replace H : ((dialtoneref12_prefix.f k t246 (wrap64 (1 + t247))).bind fun t248 => ((dialtoneref12_pick.f a0_2 (mn (wrap64 (7 - (t245.size : Int))) (wrap64 (8 - (t248.size : Int))))).bind fun t250 => (some (t245, t248, wrap64 ((wrap64 ((t245.size : Int) + 1)) + t250))))) = some (r1, r2, r3) := H
 have A6 := Aside0.mk A60
 clear A60
 replace H := Option.bind_eq_some_iff.mp H
 obtain ⟨t248, A70, H⟩ := H
 replace H : ((dialtoneref12_pick.f a0_2 (mn (wrap64 (7 - (t245.size : Int))) (wrap64 (8 - (t248.size : Int))))).bind fun t250 => (some (t245, t248, wrap64 ((wrap64 ((t245.size : Int) + 1)) + t250)))) = some (r1, r2, r3) := H
 have A7 := Aside0.mk A70
 clear A70
 obtain ⟨ji8, hji8⟩ : ∃ j_ : Int, (mn (wrap64 (7 - (t245.size : Int))) (wrap64 (8 - (t248.size : Int)))) = j_ := ⟨_, rfl⟩
 replace H : ((dialtoneref12_pick.f a0_2 (ji8)).bind fun t250 => (some (t245, t248, wrap64 ((wrap64 ((t245.size : Int) + 1)) + t250)))) = some (r1, r2, r3) := by first | (rw [hji8] at H; exact H) | (simp only [hji8] at H ⊢; exact H)
 (try rw [hji8] at A2)
 (try rw [hji8] at A3)
 (try rw [hji8] at A4)
 (try rw [hji8] at A5)
 (try rw [hji8] at A6)
 (try rw [hji8] at A7)
 have hji8_ : (if (wrap64 (8 - (t248.size : Int))) < (wrap64 (7 - (t245.size : Int))) then (wrap64 (8 - (t248.size : Int))) else (wrap64 (7 - (t245.size : Int)))) = ji8 := hji8
 replace H := Option.bind_eq_some_iff.mp H
 obtain ⟨t250, A90, H⟩ := H
 replace H : (some (t245, t248, wrap64 ((wrap64 ((t245.size : Int) + 1)) + t250))) = some (r1, r2, r3) := H
 have A9 := Aside0.mk A90
 clear A90
 simp only [Option.some.injEq, Prod.mk.injEq] at H
 obtain ⟨rfl, rfl, rfl⟩ := H
 go_enter Tryz.func29, Tryz.ntmps29
 try go_wp2_with (first | ((with_reducible refine gate_dst (N := 1) rfl ?_); refine box_event ?hg (N := 1) ?hd (cs := #[.int .i64 a0_0, .int .i64 a0_1, .int .i64 a0_2]) (t := 23) ?hr ?_; (case hd => rfl); (case hg => rfl); (case hr => exact zq0); intro gb241 hg w10 hbox hb; have n0_ := Aside0.mk (below_step (zq1) hb); have n1_ := Aside0.mk (hbox); have n2_ := Aside0.mk ((zq2 : w.heap.size ≤ gb241)); have n3_ := Aside0.mk ((zq2 : w.heap.size ≤ gb241)); clear HB; have HB := n0_; have BK241 := n1_; have GW241 := n2_; have GE241 := n3_; clear n0_ n1_ n2_ n3_; clear hb hbox hg) | ((with_reducible refine gate_dst (N := 2) rfl ?_); refine box_event ?hg (N := 2) ?hd (cs := #[.string (⟨#[]⟩ : ByteArray), .string (⟨#[]⟩ : ByteArray), .int .i64 0]) (t := 29) ?hr ?_; (case hd => rfl); (case hg => rfl); (case hr => exact zq0); intro gb242 hg w11 hbox hb; have n0_ := Aside0.mk (blk_below (g := gb241) (o := .cells #[.int .i64 a0_0, .int .i64 a0_1, .int .i64 a0_2] 23 (0, 0)) (zq71) hb); have n1_ := Aside0.mk (below_step (zq72) hb); have n2_ := Aside0.mk (hbox); have n3_ := Aside0.mk ((zq73 : w.heap.size ≤ gb242)); have n4_ := Aside0.mk ((zq73 : w.heap.size ≤ gb242)); have n5_ := Aside0.mk ((zq74 : gb241 ≠ gb242)); have n6_ := Aside0.mk ((zq75 : gb242 ≠ gb241)); clear BK241; clear HB; have BK241 := n0_; have HB := n1_; have BK242 := n2_; have GW242 := n3_; have GE242 := n4_; have NB241_242 := n5_; have NB242_241 := n6_; clear n0_ n1_ n2_ n3_ n4_ n5_ n6_; clear hb hbox hg))
 have n0_ := Aside0.mk (blk_drew BK241.out)
 have n1_ := Aside0.mk (blk_drew BK242.out)
 have n2_ := Aside0.mk (below_drew1 HB.out)
 clear BK241
 clear BK242
 clear HB
 have BK241 := n0_
 have BK242 := n1_
 have HB := n2_
 clear n0_ n1_ n2_
 refine start_ (n := 21) (S := fun w' => w'.cell? ⟨gb241, 0, none⟩ = some (.int .i64 a0_0) ∧ w'.cell? ⟨gb241, 1, none⟩ = some (.int .i64 a0_1) ∧ w'.cell? ⟨gb241, 2, none⟩ = some (.int .i64 a0_2)) (ds := []) #[false, false, false, false, false, false, false, false, false, false, false, false, false, false, false, false, false, false, false, false, false] (by kernel_rfl) rfl rfl ⟨(blk_cell BK241.out 0).trans rfl, (blk_cell BK241.out 1).trans rfl, (blk_cell BK241.out 2).trans rfl⟩ (fun hHeld => ?_); refine with_tabW dialtoneref12_One.tab1 dialtoneref12_One.bits1 (fun HT_ HW_ => ?_)
 generalize w11.drew = w12 at BK241 BK242 HB hHeld ⊢
 refine pure_ (i := 0) (N := some 4) (v := ?_) (a' := ?_) #[true, false, false, false, false, false, false, false, false, false, false, false, false, false, false, false, false, false, false, false, false] rfl rfl (any_of HT_.out (by kernel_rfl)) (fun _ _ _ h => h) (Or.inl ⟨by rfl, ?_⟩) ?_ ?_
 rotate_left
 ·intro w'
  go_simp
  with_reducible rfl
 rotate_left
 ·simp only [Act.put, List.setIfInBounds_toArray, List.set_cons_zero, List.set_cons_succ, i64_w, i32_w]
  rfl
 refine pure_ (i := 4) (N := some 8) (v := ?_) (a' := ?_) #[true, false, false, false, true, false, false, false, false, false, false, false, false, false, false, false, false, false, false, false, false] rfl rfl (any_of HT_.out (by kernel_rfl)) (fun _ _ _ h => h) (Or.inl ⟨by rfl, ?_⟩) ?_ ?_
 rotate_left
 ·intro w'
  go_simp
  with_reducible rfl
 rotate_left
 ·simp only [Act.put, List.setIfInBounds_toArray, List.set_cons_zero, List.set_cons_succ, i64_w, i32_w]
  rfl
 refine pure_ (i := 9) (N := some 13) (v := ?_) (a' := ?_) #[true, false, false, false, true, false, false, false, false, true, false, false, false, false, false, false, false, false, false, false, false] rfl rfl (any_of HT_.out (by kernel_rfl)) (fun _ _ _ h => h) (Or.inl ⟨by rfl, ?_⟩) ?_ ?_
 rotate_left
 ·intro w'
  go_simp
  with_reducible rfl
 rotate_left
 ·simp only [Act.put, List.setIfInBounds_toArray, List.set_cons_zero, List.set_cons_succ, i64_w, i32_w]
  rfl
 refine pure_ (i := 13) (N := some 17) (v := ?_) (a' := ?_) #[true, false, false, false, true, false, false, false, false, true, false, false, false, true, false, false, false, false, false, false, false] rfl rfl (any_of HT_.out (by kernel_rfl)) (fun _ _ _ h => h) (Or.inl ⟨by rfl, ?_⟩) ?_ ?_
 rotate_left
 ·intro w'
  go_simp
  with_reducible rfl
 rotate_left
 ·simp only [Act.put, List.setIfInBounds_toArray, List.set_cons_zero, List.set_cons_succ, i64_w, i32_w]
  rfl
 refine take_ (i := 1) (N := some 5) (v := ?_) (a' := ?_) #[true, true, false, false, true, false, false, false, false, true, false, false, false, true, false, false, false, false, false, false, false] rfl rfl (take_ofW HT_.out HW_.out (by kernel_rfl)) (fun _ _ _ h => h) (Or.inl ⟨by rfl, ?_⟩) hHeld ?_ ?_
 rotate_left
 ·rintro w' ⟨s0, s1, s2⟩
  go_simp
  with_reducible rfl
 rotate_left
 ·simp only [Act.put, List.setIfInBounds_toArray, List.set_cons_zero, List.set_cons_succ, i64_w, i32_w]
  rfl
 refine pure_ (i := 2) (N := some 6) (v := ?_) (a' := ?_) #[true, true, true, false, true, false, false, false, false, true, false, false, false, true, false, false, false, false, false, false, false] rfl rfl (any_of HT_.out (by kernel_rfl)) (fun _ _ _ h => h) (Or.inl ⟨by rfl, ?_⟩) ?_ ?_
 rotate_left
 ·intro w'
  go_simp
  with_reducible rfl
 rotate_left
 ·simp only [Act.put, List.setIfInBounds_toArray, List.set_cons_zero, List.set_cons_succ, i64_w, i32_w]
  rfl
 refine take_ (i := 5) (N := some 9) (v := ?_) (a' := ?_) #[true, true, true, false, true, true, false, false, false, true, false, false, false, true, false, false, false, false, false, false, false] rfl rfl (take_ofW HT_.out HW_.out (by kernel_rfl)) (fun _ _ _ h => h) (Or.inl ⟨by rfl, ?_⟩) hHeld ?_ ?_
 rotate_left
 ·rintro w' ⟨s0, s1, s2⟩
  go_simp
  with_reducible rfl
 rotate_left
 ·simp only [Act.put, List.setIfInBounds_toArray, List.set_cons_zero, List.set_cons_succ, i64_w, i32_w]
  rfl
 refine take_ (i := 10) (N := some 14) (v := ?_) (a' := ?_) #[true, true, true, false, true, true, false, false, false, true, true, false, false, true, false, false, false, false, false, false, false] rfl rfl (take_ofW HT_.out HW_.out (by kernel_rfl)) (fun _ _ _ h => h) (Or.inl ⟨by rfl, ?_⟩) hHeld ?_ ?_
 rotate_left
 ·rintro w' ⟨s0, s1, s2⟩
  go_simp
  with_reducible rfl
 rotate_left
 ·simp only [Act.put, List.setIfInBounds_toArray, List.set_cons_zero, List.set_cons_succ, i64_w, i32_w]
  rfl
 refine pure_ (i := 11) (N := some 15) (v := ?_) (a' := ?_) #[true, true, true, false, true, true, false, false, false, true, true, true, false, true, false, false, false, false, false, false, false] rfl rfl (any_of HT_.out (by kernel_rfl)) (fun _ _ _ h => h) (Or.inl ⟨by rfl, ?_⟩) ?_ ?_
 rotate_left
 ·intro w'
  go_simp
  with_reducible rfl
 rotate_left
 ·simp only [Act.put, List.setIfInBounds_toArray, List.set_cons_zero, List.set_cons_succ, i64_w, i32_w]
  rfl
 refine take_ (i := 14) (N := some 18) (v := ?_) (a' := ?_) #[true, true, true, false, true, true, false, false, false, true, true, true, false, true, true, false, false, false, false, false, false] rfl rfl (take_ofW HT_.out HW_.out (by kernel_rfl)) (fun _ _ _ h => h) (Or.inl ⟨by rfl, ?_⟩) hHeld ?_ ?_
 rotate_left
 ·rintro w' ⟨s0, s1, s2⟩
  go_simp
  with_reducible rfl
 rotate_left
 ·simp only [Act.put, List.setIfInBounds_toArray, List.set_cons_zero, List.set_cons_succ, i64_w, i32_w]
  rfl
 refine join_ (σ := Nat) 1 #[true, true, true, true, true, true, true, true, true, true, true, true, true, true, true, true, true, true, true, true, false] (fun s_ => [(7, .int .i64 t243), (10, .int .i64 t244), (12, .string t245), (16, .int .i64 t246), (19, .int .i64 t247), (21, .string t248), (3, .pointer (some ⟨s_, 0, none⟩)), (11, .int .i64 (wrap64 (1 + t244))), (20, .int .i64 (wrap64 (1 + t247))), (22, .agg #[.string t245, .string t248, .int .i64 0])]) (fun s_ w' => (w'.cell? ⟨gb241, 0, none⟩ = some (.int .i64 a0_0) ∧ w'.cell? ⟨gb241, 1, none⟩ = some (.int .i64 a0_1) ∧ w'.cell? ⟨gb241, 2, none⟩ = some (.int .i64 a0_2)) ∧ (w'.heap[gb241]? = some (.cells #[.int .i64 a0_0, .int .i64 a0_1, .int .i64 a0_2] 23 (0, 0))) ∧ (w'.heap[gb242]? = some (.cells #[.string (⟨#[]⟩ : ByteArray), .string (⟨#[]⟩ : ByteArray), .int .i64 0] 29 (0, 0))) ∧ (w'.heap[s_]? = some (.cells #[.string (⟨#[]⟩ : ByteArray), .string (⟨#[]⟩ : ByteArray), .int .i64 0] 29 (0, 0))) ∧ (w.heap.size ≤ s_) ∧ (w.heap.size ≤ s_) ∧ (gb241 ≠ s_) ∧ (s_ ≠ gb241) ∧ (gb242 ≠ s_) ∧ (s_ ≠ gb242) ∧ (Below w.heap.size w w')) ?_ ?_
 rotate_left
 ·intro hJ3_6_8_12_15_17_19
  refine join_ (σ := Unit) 2 #[true, true, true, true, true, true, true, true, true, true, true, true, true, true, true, true, true, true, true, false, false] (fun s_ => [(7, .int .i64 t243), (10, .int .i64 t244), (12, .string t245), (16, .int .i64 t246), (19, .int .i64 t247), (21, .string t248), (11, .int .i64 (wrap64 (1 + t244))), (20, .int .i64 (wrap64 (1 + t247))), (22, .agg #[.string t245, .string t248, .int .i64 0])]) (fun s_ w' => (w'.cell? ⟨gb241, 0, none⟩ = some (.int .i64 a0_0) ∧ w'.cell? ⟨gb241, 1, none⟩ = some (.int .i64 a0_1) ∧ w'.cell? ⟨gb241, 2, none⟩ = some (.int .i64 a0_2)) ∧ (w'.heap[gb241]? = some (.cells #[.int .i64 a0_0, .int .i64 a0_1, .int .i64 a0_2] 23 (0, 0))) ∧ (w'.heap[gb242]? = some (.cells #[.string (⟨#[]⟩ : ByteArray), .string (⟨#[]⟩ : ByteArray), .int .i64 0] 29 (0, 0))) ∧ (Below w.heap.size w w')) ?_ ?_
  rotate_left
  ·intro hJ3_6_8_12_15_17
   refine join_ (σ := Nat) 3 #[true, true, true, true, true, true, true, true, true, true, true, true, true, true, true, true, true, false, false, true, false] (fun s_ => [(7, .int .i64 t243), (10, .int .i64 t244), (12, .string t245), (16, .int .i64 t246), (19, .int .i64 t247), (3, .pointer (some ⟨s_, 0, none⟩)), (11, .int .i64 (wrap64 (1 + t244))), (20, .int .i64 (wrap64 (1 + t247)))]) (fun s_ w' => (w'.cell? ⟨gb241, 0, none⟩ = some (.int .i64 a0_0) ∧ w'.cell? ⟨gb241, 1, none⟩ = some (.int .i64 a0_1) ∧ w'.cell? ⟨gb241, 2, none⟩ = some (.int .i64 a0_2)) ∧ (w'.heap[gb241]? = some (.cells #[.int .i64 a0_0, .int .i64 a0_1, .int .i64 a0_2] 23 (0, 0))) ∧ (w'.heap[gb242]? = some (.cells #[.string (⟨#[]⟩ : ByteArray), .string (⟨#[]⟩ : ByteArray), .int .i64 0] 29 (0, 0))) ∧ (w'.heap[s_]? = some (.cells #[.string (⟨#[]⟩ : ByteArray), .string (⟨#[]⟩ : ByteArray), .int .i64 0] 29 (0, 0))) ∧ (w.heap.size ≤ s_) ∧ (w.heap.size ≤ s_) ∧ (gb241 ≠ s_) ∧ (s_ ≠ gb241) ∧ (gb242 ≠ s_) ∧ (s_ ≠ gb242) ∧ (Below w.heap.size w w')) ?_ ?_
   rotate_left
   ·intro hJ3_6_8_12_15_19
    refine join_ (σ := Unit) 4 #[true, true, true, true, true, true, true, true, true, true, true, true, true, true, true, true, true, false, false, false, false] (fun s_ => [(7, .int .i64 t243), (10, .int .i64 t244), (12, .string t245), (16, .int .i64 t246), (19, .int .i64 t247), (11, .int .i64 (wrap64 (1 + t244))), (20, .int .i64 (wrap64 (1 + t247)))]) (fun s_ w' => (w'.cell? ⟨gb241, 0, none⟩ = some (.int .i64 a0_0) ∧ w'.cell? ⟨gb241, 1, none⟩ = some (.int .i64 a0_1) ∧ w'.cell? ⟨gb241, 2, none⟩ = some (.int .i64 a0_2)) ∧ (w'.heap[gb241]? = some (.cells #[.int .i64 a0_0, .int .i64 a0_1, .int .i64 a0_2] 23 (0, 0))) ∧ (w'.heap[gb242]? = some (.cells #[.string (⟨#[]⟩ : ByteArray), .string (⟨#[]⟩ : ByteArray), .int .i64 0] 29 (0, 0))) ∧ (Below w.heap.size w w')) ?_ ?_
    rotate_left
    ·intro hJ3_6_8_12_15
     refine join_ (σ := Nat) 5 #[true, true, true, true, true, true, true, true, true, true, true, true, true, true, true, false, false, false, false, true, false] (fun s_ => [(7, .int .i64 t243), (10, .int .i64 t244), (12, .string t245), (16, .int .i64 t246), (3, .pointer (some ⟨s_, 0, none⟩)), (11, .int .i64 (wrap64 (1 + t244)))]) (fun s_ w' => (w'.cell? ⟨gb241, 0, none⟩ = some (.int .i64 a0_0) ∧ w'.cell? ⟨gb241, 1, none⟩ = some (.int .i64 a0_1) ∧ w'.cell? ⟨gb241, 2, none⟩ = some (.int .i64 a0_2)) ∧ (w'.heap[gb241]? = some (.cells #[.int .i64 a0_0, .int .i64 a0_1, .int .i64 a0_2] 23 (0, 0))) ∧ (w'.heap[gb242]? = some (.cells #[.string (⟨#[]⟩ : ByteArray), .string (⟨#[]⟩ : ByteArray), .int .i64 0] 29 (0, 0))) ∧ (w'.heap[s_]? = some (.cells #[.string (⟨#[]⟩ : ByteArray), .string (⟨#[]⟩ : ByteArray), .int .i64 0] 29 (0, 0))) ∧ (w.heap.size ≤ s_) ∧ (w.heap.size ≤ s_) ∧ (gb241 ≠ s_) ∧ (s_ ≠ gb241) ∧ (gb242 ≠ s_) ∧ (s_ ≠ gb242) ∧ (Below w.heap.size w w')) ?_ ?_
     rotate_left
     ·intro hJ3_6_8_12_19
      refine join_ (σ := Unit) 6 #[true, true, true, true, true, true, true, true, true, true, true, true, true, true, true, false, false, false, false, false, false] (fun s_ => [(7, .int .i64 t243), (10, .int .i64 t244), (12, .string t245), (16, .int .i64 t246), (11, .int .i64 (wrap64 (1 + t244)))]) (fun s_ w' => (w'.cell? ⟨gb241, 0, none⟩ = some (.int .i64 a0_0) ∧ w'.cell? ⟨gb241, 1, none⟩ = some (.int .i64 a0_1) ∧ w'.cell? ⟨gb241, 2, none⟩ = some (.int .i64 a0_2)) ∧ (w'.heap[gb241]? = some (.cells #[.int .i64 a0_0, .int .i64 a0_1, .int .i64 a0_2] 23 (0, 0))) ∧ (w'.heap[gb242]? = some (.cells #[.string (⟨#[]⟩ : ByteArray), .string (⟨#[]⟩ : ByteArray), .int .i64 0] 29 (0, 0))) ∧ (Below w.heap.size w w')) ?_ ?_
      rotate_left
      ·intro hJ3_6_8_12
       refine join_ (σ := Nat) 6 #[true, true, true, true, true, true, true, true, true, true, true, true, false, true, true, false, false, false, false, true, false] (fun s_ => [(7, .int .i64 t243), (10, .int .i64 t244), (12, .string t245), (3, .pointer (some ⟨s_, 0, none⟩)), (11, .int .i64 (wrap64 (1 + t244)))]) (fun s_ w' => (w'.cell? ⟨gb241, 0, none⟩ = some (.int .i64 a0_0) ∧ w'.cell? ⟨gb241, 1, none⟩ = some (.int .i64 a0_1) ∧ w'.cell? ⟨gb241, 2, none⟩ = some (.int .i64 a0_2)) ∧ (w'.heap[gb241]? = some (.cells #[.int .i64 a0_0, .int .i64 a0_1, .int .i64 a0_2] 23 (0, 0))) ∧ (w'.heap[gb242]? = some (.cells #[.string (⟨#[]⟩ : ByteArray), .string (⟨#[]⟩ : ByteArray), .int .i64 0] 29 (0, 0))) ∧ (w'.heap[s_]? = some (.cells #[.string (⟨#[]⟩ : ByteArray), .string (⟨#[]⟩ : ByteArray), .int .i64 0] 29 (0, 0))) ∧ (w.heap.size ≤ s_) ∧ (w.heap.size ≤ s_) ∧ (gb241 ≠ s_) ∧ (s_ ≠ gb241) ∧ (gb242 ≠ s_) ∧ (s_ ≠ gb242) ∧ (Below w.heap.size w w')) ?_ ?_
       rotate_left
       ·intro hJ3_6_8_19
        refine join_ (σ := Unit) 7 #[true, true, true, true, true, true, true, true, true, true, true, true, false, true, true, false, false, false, false, false, false] (fun s_ => [(7, .int .i64 t243), (10, .int .i64 t244), (12, .string t245), (11, .int .i64 (wrap64 (1 + t244)))]) (fun s_ w' => (w'.cell? ⟨gb241, 0, none⟩ = some (.int .i64 a0_0) ∧ w'.cell? ⟨gb241, 1, none⟩ = some (.int .i64 a0_1) ∧ w'.cell? ⟨gb241, 2, none⟩ = some (.int .i64 a0_2)) ∧ (w'.heap[gb241]? = some (.cells #[.int .i64 a0_0, .int .i64 a0_1, .int .i64 a0_2] 23 (0, 0))) ∧ (w'.heap[gb242]? = some (.cells #[.string (⟨#[]⟩ : ByteArray), .string (⟨#[]⟩ : ByteArray), .int .i64 0] 29 (0, 0))) ∧ (Below w.heap.size w w')) ?_ ?_
        rotate_left
        ·intro hJ3_6_8
         refine join_ (σ := Nat) 7 #[true, true, true, true, true, true, true, true, false, true, true, true, false, true, true, false, false, false, false, true, false] (fun s_ => [(7, .int .i64 t243), (10, .int .i64 t244), (3, .pointer (some ⟨s_, 0, none⟩)), (11, .int .i64 (wrap64 (1 + t244)))]) (fun s_ w' => (w'.cell? ⟨gb241, 0, none⟩ = some (.int .i64 a0_0) ∧ w'.cell? ⟨gb241, 1, none⟩ = some (.int .i64 a0_1) ∧ w'.cell? ⟨gb241, 2, none⟩ = some (.int .i64 a0_2)) ∧ (w'.heap[gb241]? = some (.cells #[.int .i64 a0_0, .int .i64 a0_1, .int .i64 a0_2] 23 (0, 0))) ∧ (w'.heap[gb242]? = some (.cells #[.string (⟨#[]⟩ : ByteArray), .string (⟨#[]⟩ : ByteArray), .int .i64 0] 29 (0, 0))) ∧ (w'.heap[s_]? = some (.cells #[.string (⟨#[]⟩ : ByteArray), .string (⟨#[]⟩ : ByteArray), .int .i64 0] 29 (0, 0))) ∧ (w.heap.size ≤ s_) ∧ (w.heap.size ≤ s_) ∧ (gb241 ≠ s_) ∧ (s_ ≠ gb241) ∧ (gb242 ≠ s_) ∧ (s_ ≠ gb242) ∧ (Below w.heap.size w w')) ?_ ?_
         rotate_left
         ·intro hJ3_6_19
          refine join_ (σ := Unit) 8 #[true, true, true, true, true, true, true, true, false, true, true, true, false, true, true, false, false, false, false, false, false] (fun s_ => [(7, .int .i64 t243), (10, .int .i64 t244), (11, .int .i64 (wrap64 (1 + t244)))]) (fun s_ w' => (w'.cell? ⟨gb241, 0, none⟩ = some (.int .i64 a0_0) ∧ w'.cell? ⟨gb241, 1, none⟩ = some (.int .i64 a0_1) ∧ w'.cell? ⟨gb241, 2, none⟩ = some (.int .i64 a0_2)) ∧ (w'.heap[gb241]? = some (.cells #[.int .i64 a0_0, .int .i64 a0_1, .int .i64 a0_2] 23 (0, 0))) ∧ (w'.heap[gb242]? = some (.cells #[.string (⟨#[]⟩ : ByteArray), .string (⟨#[]⟩ : ByteArray), .int .i64 0] 29 (0, 0))) ∧ (Below w.heap.size w w')) ?_ ?_
          rotate_left
          ·intro hJ3_6
           refine join_ (σ := Nat) 9 #[true, true, true, true, true, true, false, false, false, true, true, true, false, true, true, false, false, false, false, true, false] (fun s_ => [(7, .int .i64 t243), (3, .pointer (some ⟨s_, 0, none⟩))]) (fun s_ w' => (w'.cell? ⟨gb241, 0, none⟩ = some (.int .i64 a0_0) ∧ w'.cell? ⟨gb241, 1, none⟩ = some (.int .i64 a0_1) ∧ w'.cell? ⟨gb241, 2, none⟩ = some (.int .i64 a0_2)) ∧ (w'.heap[gb241]? = some (.cells #[.int .i64 a0_0, .int .i64 a0_1, .int .i64 a0_2] 23 (0, 0))) ∧ (w'.heap[gb242]? = some (.cells #[.string (⟨#[]⟩ : ByteArray), .string (⟨#[]⟩ : ByteArray), .int .i64 0] 29 (0, 0))) ∧ (w'.heap[s_]? = some (.cells #[.string (⟨#[]⟩ : ByteArray), .string (⟨#[]⟩ : ByteArray), .int .i64 0] 29 (0, 0))) ∧ (w.heap.size ≤ s_) ∧ (w.heap.size ≤ s_) ∧ (gb241 ≠ s_) ∧ (s_ ≠ gb241) ∧ (gb242 ≠ s_) ∧ (s_ ≠ gb242) ∧ (Below w.heap.size w w')) ?_ ?_
           rotate_left
           ·intro hJ3_19
            refine join_ (σ := Unit) 10 #[true, true, true, true, true, true, false, false, false, true, true, true, false, true, true, false, false, false, false, false, false] (fun s_ => [(7, .int .i64 t243)]) (fun s_ w' => (w'.cell? ⟨gb241, 0, none⟩ = some (.int .i64 a0_0) ∧ w'.cell? ⟨gb241, 1, none⟩ = some (.int .i64 a0_1) ∧ w'.cell? ⟨gb241, 2, none⟩ = some (.int .i64 a0_2)) ∧ (w'.heap[gb241]? = some (.cells #[.int .i64 a0_0, .int .i64 a0_1, .int .i64 a0_2] 23 (0, 0))) ∧ (w'.heap[gb242]? = some (.cells #[.string (⟨#[]⟩ : ByteArray), .string (⟨#[]⟩ : ByteArray), .int .i64 0] 29 (0, 0))) ∧ (Below w.heap.size w w')) ?_ ?_
            rotate_left
            ·intro hJ3
             refine join_ (σ := Nat) 10 #[true, true, true, false, true, true, false, false, false, true, true, true, false, true, true, false, false, false, false, true, false] (fun s_ => [(3, .pointer (some ⟨s_, 0, none⟩))]) (fun s_ w' => (w'.cell? ⟨gb241, 0, none⟩ = some (.int .i64 a0_0) ∧ w'.cell? ⟨gb241, 1, none⟩ = some (.int .i64 a0_1) ∧ w'.cell? ⟨gb241, 2, none⟩ = some (.int .i64 a0_2)) ∧ (w'.heap[gb241]? = some (.cells #[.int .i64 a0_0, .int .i64 a0_1, .int .i64 a0_2] 23 (0, 0))) ∧ (w'.heap[gb242]? = some (.cells #[.string (⟨#[]⟩ : ByteArray), .string (⟨#[]⟩ : ByteArray), .int .i64 0] 29 (0, 0))) ∧ (w'.heap[s_]? = some (.cells #[.string (⟨#[]⟩ : ByteArray), .string (⟨#[]⟩ : ByteArray), .int .i64 0] 29 (0, 0))) ∧ (w.heap.size ≤ s_) ∧ (w.heap.size ≤ s_) ∧ (gb241 ≠ s_) ∧ (s_ ≠ gb241) ∧ (gb242 ≠ s_) ∧ (s_ ≠ gb242) ∧ (Below w.heap.size w w')) ?_ ?_
             rotate_left
             ·intro hJ19
              refine two_ (i := 3) (j := 19) (Ni := some 7) (Nj := some 3) #[true, true, true, true, true, true, false, false, false, true, true, true, false, true, true, false, false, false, false, false, false] #[true, true, true, false, true, true, false, false, false, true, true, true, false, true, true, false, false, false, false, true, false] rfl rfl rfl rfl (two_of HT_.out (by kernel_rfl)) (by decide) (by decide) (fun K hK => ?_) (fun K hK => ?_)
              ·skip
               refine goes_ Tryz.func33 (by kernel_rfl) rfl #[.int .i64 (wrap64 (Int.tdiv a0_0 3)), .int .i64 1000] (by rfl) rfl rfl (zq3) ?_
               with_reducible refine (dialtoneref12_pick.calls (wrap64 (Int.tdiv a0_0 3)) 1000 t243 _ A2.out).mono ?_
               rintro e w' ⟨rfl, ⟨nd, rfl⟩⟩
               refine ⟨_, rfl, ?_⟩
               refine hK.out _ _ ⟨(blk_cell BK241.out 0).trans rfl, (blk_cell BK241.out 1).trans rfl, (blk_cell BK241.out 2).trans rfl⟩ (fun hHeld => ?_)
               clear hK K
               refine norm_ (a' := ?_) ?_ ?_
               rotate_left
               ·show Act.put _ (some 7) _ = _
                simp only [Act.put, List.setIfInBounds_toArray, List.set_cons_zero, List.set_cons_succ, i64_w, i32_w]
                rfl
               exact norm_ (zq76) (hJ3 () _ ⟨hHeld, (zq71), (zq77), (zq78)⟩)
              ·skip
               refine box_step ?hg (N := 3) ?hd (cs := #[.string (⟨#[]⟩ : ByteArray), .string (⟨#[]⟩ : ByteArray), .int .i64 0]) (t := 29) ?hr ?_; (case hd => rfl); (case hg => rfl); (case hr => exact zq0)
               intro gb249 hg w13 hbox hb
               have n0_ := Aside0.mk (blk_below (g := gb241) (o := .cells #[.int .i64 a0_0, .int .i64 a0_1, .int .i64 a0_2] 23 (0, 0)) (zq71) hb)
               have n1_ := Aside0.mk (blk_below (g := gb242) (o := .cells #[.string (⟨#[]⟩ : ByteArray), .string (⟨#[]⟩ : ByteArray), .int .i64 0] 29 (0, 0)) (zq77) hb)
               have n2_ := Aside0.mk (below_step (zq78) hb)
               have n3_ := Aside0.mk (hbox)
               have n4_ := Aside0.mk ((zq79 : w.heap.size ≤ gb249))
               have n5_ := Aside0.mk ((zq79 : w.heap.size ≤ gb249))
               have n6_ := Aside0.mk ((zq74 : gb241 ≠ gb249))
               have n7_ := Aside0.mk ((zq75 : gb249 ≠ gb241))
               have n8_ := Aside0.mk ((zq80 : gb242 ≠ gb249))
               have n9_ := Aside0.mk ((zq81 : gb249 ≠ gb242))
               clear BK241
               clear BK242
               clear HB
               have BK241 := n0_
               have BK242 := n1_
               have HB := n2_
               have BK249 := n3_
               have GW249 := n4_
               have GE249 := n5_
               have NB241_249 := n6_
               have NB249_241 := n7_
               have NB242_249 := n8_
               have NB249_242 := n9_
               clear n0_ n1_ n2_ n3_ n4_ n5_ n6_ n7_ n8_ n9_
               clear hb hbox hg
               refine hK.out _ _ ⟨(blk_cell BK241.out 0).trans rfl, (blk_cell BK241.out 1).trans rfl, (blk_cell BK241.out 2).trans rfl⟩ (fun hHeld => ?_)
               clear hK K
               refine norm_ (a' := ?_) ?_ ?_
               rotate_left
               ·show Act.put _ (some 3) _ = _
                simp only [Act.put, List.setIfInBounds_toArray, List.set_cons_zero, List.set_cons_succ, i64_w, i32_w]
                rfl
               exact norm_ (zq76) (hJ19 (gb249) _ ⟨hHeld, (zq71), (zq77), (zq82), GW249.out, GE249.out, NB241_249.out, NB249_241.out, NB242_249.out, NB249_242.out, (zq83)⟩)
             ·skip
              rintro gb249 w14 ⟨hS_, h0_, h1_, h2_, h3_, h4_, h5_, h6_, h7_, h8_, h9_⟩
              have n0_ : Aside0 (w14.heap[gb241]? = some (.cells #[.int .i64 a0_0, .int .i64 a0_1, .int .i64 a0_2] 23 (0, 0))) := ⟨h0_⟩
              have n1_ : Aside0 (w14.heap[gb242]? = some (.cells #[.string (⟨#[]⟩ : ByteArray), .string (⟨#[]⟩ : ByteArray), .int .i64 0] 29 (0, 0))) := ⟨h1_⟩
              have n2_ : Aside0 (w14.heap[gb249]? = some (.cells #[.string (⟨#[]⟩ : ByteArray), .string (⟨#[]⟩ : ByteArray), .int .i64 0] 29 (0, 0))) := ⟨h2_⟩
              have n3_ : Aside0 (w.heap.size ≤ gb249) := ⟨h3_⟩
              have n4_ : Aside0 (w.heap.size ≤ gb249) := ⟨h4_⟩
              have n5_ : Aside0 (gb241 ≠ gb249) := ⟨h5_⟩
              have n6_ : Aside0 (gb249 ≠ gb241) := ⟨h6_⟩
              have n7_ : Aside0 (gb242 ≠ gb249) := ⟨h7_⟩
              have n8_ : Aside0 (gb249 ≠ gb242) := ⟨h8_⟩
              have n9_ : Aside0 (Below w.heap.size w w14) := ⟨h9_⟩
              clear BK241
              clear BK242
              clear HB
              clear h0_ h1_ h2_ h3_ h4_ h5_ h6_ h7_ h8_ h9_
              have BK241 := n0_
              have BK242 := n1_
              have BK249 := n2_
              have GW249 := n3_
              have GE249 := n4_
              have NB241_249 := n5_
              have NB249_241 := n6_
              have NB242_249 := n7_
              have NB249_242 := n8_
              have HB := n9_
              clear n0_ n1_ n2_ n3_ n4_ n5_ n6_ n7_ n8_ n9_
              have hHeld : w14.cell? ⟨gb241, 0, none⟩ = some (.int .i64 a0_0) ∧ w14.cell? ⟨gb241, 1, none⟩ = some (.int .i64 a0_1) ∧ w14.cell? ⟨gb241, 2, none⟩ = some (.int .i64 a0_2) := hS_
              refine norm_ (a' := ?_) ?_ ?_
              rotate_left
              ·simp only [putAll, Act.put, List.setIfInBounds_toArray, List.set_cons_zero, List.set_cons_succ]
               rfl
              refine one_ (i := 3) (N := some 7) #[true, true, true, true, true, true, false, false, false, true, true, true, false, true, true, false, false, false, false, true, false] rfl rfl (one_of HT_.out (by kernel_rfl)) (by decide) (fun K hK => ?_)
              refine goes_ Tryz.func33 (by kernel_rfl) rfl #[.int .i64 (wrap64 (Int.tdiv a0_0 3)), .int .i64 1000] (by rfl) rfl rfl (zq3) ?_
              with_reducible refine (dialtoneref12_pick.calls (wrap64 (Int.tdiv a0_0 3)) 1000 t243 _ A2.out).mono ?_
              rintro e w' ⟨rfl, ⟨nd, rfl⟩⟩
              refine ⟨_, rfl, ?_⟩
              refine hK.out _ _ ⟨(blk_cell BK241.out 0).trans rfl, (blk_cell BK241.out 1).trans rfl, (blk_cell BK241.out 2).trans rfl⟩ (fun hHeld => ?_)
              clear hK K
              refine norm_ (a' := ?_) ?_ ?_
              rotate_left
              ·show Act.put _ (some 7) _ = _
               simp only [Act.put, List.setIfInBounds_toArray, List.set_cons_zero, List.set_cons_succ, i64_w, i32_w]
               rfl
              exact norm_ (zq76) (hJ3_19 (gb249) _ ⟨hHeld, (zq71), (zq77), (zq82), GW249.out, GE249.out, NB241_249.out, NB249_241.out, NB242_249.out, NB249_242.out, (zq83)⟩)
            ·skip
             rintro _ w13 ⟨hS_, h0_, h1_, h2_⟩
             have n0_ : Aside0 (w13.heap[gb241]? = some (.cells #[.int .i64 a0_0, .int .i64 a0_1, .int .i64 a0_2] 23 (0, 0))) := ⟨h0_⟩
             have n1_ : Aside0 (w13.heap[gb242]? = some (.cells #[.string (⟨#[]⟩ : ByteArray), .string (⟨#[]⟩ : ByteArray), .int .i64 0] 29 (0, 0))) := ⟨h1_⟩
             have n2_ : Aside0 (Below w.heap.size w w13) := ⟨h2_⟩
             clear BK241
             clear BK242
             clear HB
             clear h0_ h1_ h2_
             have BK241 := n0_
             have BK242 := n1_
             have HB := n2_
             clear n0_ n1_ n2_
             have hHeld : w13.cell? ⟨gb241, 0, none⟩ = some (.int .i64 a0_0) ∧ w13.cell? ⟨gb241, 1, none⟩ = some (.int .i64 a0_1) ∧ w13.cell? ⟨gb241, 2, none⟩ = some (.int .i64 a0_2) := hS_
             refine norm_ (a' := ?_) ?_ ?_
             rotate_left
             ·simp only [putAll, Act.put, List.setIfInBounds_toArray, List.set_cons_zero, List.set_cons_succ]
              rfl
             refine two_ (i := 6) (j := 19) (Ni := some 10) (Nj := some 3) #[true, true, true, true, true, true, true, false, false, true, true, true, false, true, true, false, false, false, false, false, false] #[true, true, true, true, true, true, false, false, false, true, true, true, false, true, true, false, false, false, false, true, false] rfl rfl rfl rfl (two_of HT_.out (by kernel_rfl)) (by decide) (by decide) (fun K hK => ?_) (fun K hK => ?_)
             ·skip
              refine goes_ Tryz.func33 (by kernel_rfl) rfl #[.int .i64 a0_0, .int .i64 3] (by rfl) rfl rfl (zq3) ?_
              with_reducible refine (dialtoneref12_pick.calls a0_0 3 t244 _ A3.out).mono ?_
              rintro e w' ⟨rfl, ⟨nd, rfl⟩⟩
              refine ⟨_, rfl, ?_⟩
              refine hK.out _ _ ⟨(blk_cell BK241.out 0).trans rfl, (blk_cell BK241.out 1).trans rfl, (blk_cell BK241.out 2).trans rfl⟩ (fun hHeld => ?_)
              clear hK K
              refine norm_ (a' := ?_) ?_ ?_
              rotate_left
              ·show Act.put _ (some 10) _ = _
               simp only [Act.put, List.setIfInBounds_toArray, List.set_cons_zero, List.set_cons_succ, i64_w, i32_w]
               rfl
              refine pure_ (i := 7) (N := some 11) (v := ?_) (a' := ?_) #[true, true, true, true, true, true, true, true, false, true, true, true, false, true, true, false, false, false, false, false, false] rfl rfl (any_of HT_.out (by kernel_rfl)) (fun _ _ _ h => h) (Or.inl ⟨by rfl, ?_⟩) ?_ ?_
              rotate_left
              ·intro w'
               go_simp
               with_reducible rfl
              rotate_left
              ·simp only [Act.put, List.setIfInBounds_toArray, List.set_cons_zero, List.set_cons_succ, i64_w, i32_w]
               rfl
              exact norm_ (zq76) (hJ3_6 () _ ⟨hHeld, (zq71), (zq77), (zq78)⟩)
             ·skip
              refine box_step ?hg (N := 3) ?hd (cs := #[.string (⟨#[]⟩ : ByteArray), .string (⟨#[]⟩ : ByteArray), .int .i64 0]) (t := 29) ?hr ?_; (case hd => rfl); (case hg => rfl); (case hr => exact zq0)
              intro gb249 hg w14 hbox hb
              have n0_ := Aside0.mk (blk_below (g := gb241) (o := .cells #[.int .i64 a0_0, .int .i64 a0_1, .int .i64 a0_2] 23 (0, 0)) (zq71) hb)
              have n1_ := Aside0.mk (blk_below (g := gb242) (o := .cells #[.string (⟨#[]⟩ : ByteArray), .string (⟨#[]⟩ : ByteArray), .int .i64 0] 29 (0, 0)) (zq77) hb)
              have n2_ := Aside0.mk (below_step (zq78) hb)
              have n3_ := Aside0.mk (hbox)
              have n4_ := Aside0.mk ((zq79 : w.heap.size ≤ gb249))
              have n5_ := Aside0.mk ((zq79 : w.heap.size ≤ gb249))
              have n6_ := Aside0.mk ((zq74 : gb241 ≠ gb249))
              have n7_ := Aside0.mk ((zq75 : gb249 ≠ gb241))
              have n8_ := Aside0.mk ((zq80 : gb242 ≠ gb249))
              have n9_ := Aside0.mk ((zq81 : gb249 ≠ gb242))
              clear BK241
              clear BK242
              clear HB
              have BK241 := n0_
              have BK242 := n1_
              have HB := n2_
              have BK249 := n3_
              have GW249 := n4_
              have GE249 := n5_
              have NB241_249 := n6_
              have NB249_241 := n7_
              have NB242_249 := n8_
              have NB249_242 := n9_
              clear n0_ n1_ n2_ n3_ n4_ n5_ n6_ n7_ n8_ n9_
              clear hb hbox hg
              refine hK.out _ _ ⟨(blk_cell BK241.out 0).trans rfl, (blk_cell BK241.out 1).trans rfl, (blk_cell BK241.out 2).trans rfl⟩ (fun hHeld => ?_)
              clear hK K
              refine norm_ (a' := ?_) ?_ ?_
              rotate_left
              ·show Act.put _ (some 3) _ = _
               simp only [Act.put, List.setIfInBounds_toArray, List.set_cons_zero, List.set_cons_succ, i64_w, i32_w]
               rfl
              exact norm_ (zq76) (hJ3_19 (gb249) _ ⟨hHeld, (zq71), (zq77), (zq82), GW249.out, GE249.out, NB241_249.out, NB249_241.out, NB242_249.out, NB249_242.out, (zq83)⟩)
           ·skip
            rintro gb249 w14 ⟨hS_, h0_, h1_, h2_, h3_, h4_, h5_, h6_, h7_, h8_, h9_⟩
            have n0_ : Aside0 (w14.heap[gb241]? = some (.cells #[.int .i64 a0_0, .int .i64 a0_1, .int .i64 a0_2] 23 (0, 0))) := ⟨h0_⟩
            have n1_ : Aside0 (w14.heap[gb242]? = some (.cells #[.string (⟨#[]⟩ : ByteArray), .string (⟨#[]⟩ : ByteArray), .int .i64 0] 29 (0, 0))) := ⟨h1_⟩
            have n2_ : Aside0 (w14.heap[gb249]? = some (.cells #[.string (⟨#[]⟩ : ByteArray), .string (⟨#[]⟩ : ByteArray), .int .i64 0] 29 (0, 0))) := ⟨h2_⟩
            have n3_ : Aside0 (w.heap.size ≤ gb249) := ⟨h3_⟩
            have n4_ : Aside0 (w.heap.size ≤ gb249) := ⟨h4_⟩
            have n5_ : Aside0 (gb241 ≠ gb249) := ⟨h5_⟩
            have n6_ : Aside0 (gb249 ≠ gb241) := ⟨h6_⟩
            have n7_ : Aside0 (gb242 ≠ gb249) := ⟨h7_⟩
            have n8_ : Aside0 (gb249 ≠ gb242) := ⟨h8_⟩
            have n9_ : Aside0 (Below w.heap.size w w14) := ⟨h9_⟩
            clear BK241
            clear BK242
            clear HB
            clear h0_ h1_ h2_ h3_ h4_ h5_ h6_ h7_ h8_ h9_
            have BK241 := n0_
            have BK242 := n1_
            have BK249 := n2_
            have GW249 := n3_
            have GE249 := n4_
            have NB241_249 := n5_
            have NB249_241 := n6_
            have NB242_249 := n7_
            have NB249_242 := n8_
            have HB := n9_
            clear n0_ n1_ n2_ n3_ n4_ n5_ n6_ n7_ n8_ n9_
            have hHeld : w14.cell? ⟨gb241, 0, none⟩ = some (.int .i64 a0_0) ∧ w14.cell? ⟨gb241, 1, none⟩ = some (.int .i64 a0_1) ∧ w14.cell? ⟨gb241, 2, none⟩ = some (.int .i64 a0_2) := hS_
            refine norm_ (a' := ?_) ?_ ?_
            rotate_left
            ·simp only [putAll, Act.put, List.setIfInBounds_toArray, List.set_cons_zero, List.set_cons_succ]
             rfl
            refine one_ (i := 6) (N := some 10) #[true, true, true, true, true, true, true, false, false, true, true, true, false, true, true, false, false, false, false, true, false] rfl rfl (one_of HT_.out (by kernel_rfl)) (by decide) (fun K hK => ?_)
            refine goes_ Tryz.func33 (by kernel_rfl) rfl #[.int .i64 a0_0, .int .i64 3] (by rfl) rfl rfl (zq3) ?_
            with_reducible refine (dialtoneref12_pick.calls a0_0 3 t244 _ A3.out).mono ?_
            rintro e w' ⟨rfl, ⟨nd, rfl⟩⟩
            refine ⟨_, rfl, ?_⟩
            refine hK.out _ _ ⟨(blk_cell BK241.out 0).trans rfl, (blk_cell BK241.out 1).trans rfl, (blk_cell BK241.out 2).trans rfl⟩ (fun hHeld => ?_)
            clear hK K
            refine norm_ (a' := ?_) ?_ ?_
            rotate_left
            ·show Act.put _ (some 10) _ = _
             simp only [Act.put, List.setIfInBounds_toArray, List.set_cons_zero, List.set_cons_succ, i64_w, i32_w]
             rfl
            refine pure_ (i := 7) (N := some 11) (v := ?_) (a' := ?_) #[true, true, true, true, true, true, true, true, false, true, true, true, false, true, true, false, false, false, false, true, false] rfl rfl (any_of HT_.out (by kernel_rfl)) (fun _ _ _ h => h) (Or.inl ⟨by rfl, ?_⟩) ?_ ?_
            rotate_left
            ·intro w'
             go_simp
             with_reducible rfl
            rotate_left
            ·simp only [Act.put, List.setIfInBounds_toArray, List.set_cons_zero, List.set_cons_succ, i64_w, i32_w]
             rfl
            exact norm_ (zq76) (hJ3_6_19 (gb249) _ ⟨hHeld, (zq71), (zq77), (zq82), GW249.out, GE249.out, NB241_249.out, NB249_241.out, NB242_249.out, NB249_242.out, (zq83)⟩)
          ·skip
           rintro _ w13 ⟨hS_, h0_, h1_, h2_⟩
           have n0_ : Aside0 (w13.heap[gb241]? = some (.cells #[.int .i64 a0_0, .int .i64 a0_1, .int .i64 a0_2] 23 (0, 0))) := ⟨h0_⟩
           have n1_ : Aside0 (w13.heap[gb242]? = some (.cells #[.string (⟨#[]⟩ : ByteArray), .string (⟨#[]⟩ : ByteArray), .int .i64 0] 29 (0, 0))) := ⟨h1_⟩
           have n2_ : Aside0 (Below w.heap.size w w13) := ⟨h2_⟩
           clear BK241
           clear BK242
           clear HB
           clear h0_ h1_ h2_
           have BK241 := n0_
           have BK242 := n1_
           have HB := n2_
           clear n0_ n1_ n2_
           have hHeld : w13.cell? ⟨gb241, 0, none⟩ = some (.int .i64 a0_0) ∧ w13.cell? ⟨gb241, 1, none⟩ = some (.int .i64 a0_1) ∧ w13.cell? ⟨gb241, 2, none⟩ = some (.int .i64 a0_2) := hS_
           refine norm_ (a' := ?_) ?_ ?_
           rotate_left
           ·simp only [putAll, Act.put, List.setIfInBounds_toArray, List.set_cons_zero, List.set_cons_succ]
            rfl
           refine two_ (i := 8) (j := 19) (Ni := some 12) (Nj := some 3) #[true, true, true, true, true, true, true, true, true, true, true, true, false, true, true, false, false, false, false, false, false] #[true, true, true, true, true, true, true, true, false, true, true, true, false, true, true, false, false, false, false, true, false] rfl rfl rfl rfl (two_of HT_.out (by kernel_rfl)) (by decide) (by decide) (fun K hK => ?_) (fun K hK => ?_)
           ·skip
            refine goes_ Tryz.func34 (by kernel_rfl) rfl #[.int .i64 t243, .int .i64 (wrap64 (1 + t244))] (by rfl) rfl rfl (zq3) ?_
            with_reducible refine (dialtoneref12_prefix.calls k t243 (wrap64 (1 + t244)) t245 _ A4.out).mono ?_
            rintro e w14 ⟨rfl, hb⟩
            refine ⟨_, rfl, ?_⟩
            have n0_ := Aside0.mk (blk_below (g := gb241) (o := .cells #[.int .i64 a0_0, .int .i64 a0_1, .int .i64 a0_2] 23 (0, 0)) (zq71) hb)
            have n1_ := Aside0.mk (blk_below (g := gb242) (o := .cells #[.string (⟨#[]⟩ : ByteArray), .string (⟨#[]⟩ : ByteArray), .int .i64 0] 29 (0, 0)) (zq77) hb)
            have n2_ := Aside0.mk (below_step (zq78) hb)
            clear BK241
            clear BK242
            clear HB
            have BK241 := n0_
            have BK242 := n1_
            have HB := n2_
            clear n0_ n1_ n2_
            (try clear hb)
            (try clear hb2)
            (try clear hk)
            (try clear hi)
            refine hK.out _ _ ⟨(blk_cell BK241.out 0).trans rfl, (blk_cell BK241.out 1).trans rfl, (blk_cell BK241.out 2).trans rfl⟩ (fun hHeld => ?_)
            clear hK K
            refine norm_ (a' := ?_) ?_ ?_
            rotate_left
            ·show Act.put _ (some 12) _ = _
             simp only [Act.put, List.setIfInBounds_toArray, List.set_cons_zero, List.set_cons_succ, i64_w, i32_w]
             rfl
            exact norm_ (zq76) (hJ3_6_8 () _ ⟨hHeld, (zq71), (zq77), (zq78)⟩)
           ·skip
            refine box_step ?hg (N := 3) ?hd (cs := #[.string (⟨#[]⟩ : ByteArray), .string (⟨#[]⟩ : ByteArray), .int .i64 0]) (t := 29) ?hr ?_; (case hd => rfl); (case hg => rfl); (case hr => exact zq0)
            intro gb249 hg w14 hbox hb
            have n0_ := Aside0.mk (blk_below (g := gb241) (o := .cells #[.int .i64 a0_0, .int .i64 a0_1, .int .i64 a0_2] 23 (0, 0)) (zq71) hb)
            have n1_ := Aside0.mk (blk_below (g := gb242) (o := .cells #[.string (⟨#[]⟩ : ByteArray), .string (⟨#[]⟩ : ByteArray), .int .i64 0] 29 (0, 0)) (zq77) hb)
            have n2_ := Aside0.mk (below_step (zq78) hb)
            have n3_ := Aside0.mk (hbox)
            have n4_ := Aside0.mk ((zq79 : w.heap.size ≤ gb249))
            have n5_ := Aside0.mk ((zq79 : w.heap.size ≤ gb249))
            have n6_ := Aside0.mk ((zq74 : gb241 ≠ gb249))
            have n7_ := Aside0.mk ((zq75 : gb249 ≠ gb241))
            have n8_ := Aside0.mk ((zq80 : gb242 ≠ gb249))
            have n9_ := Aside0.mk ((zq81 : gb249 ≠ gb242))
            clear BK241
            clear BK242
            clear HB
            have BK241 := n0_
            have BK242 := n1_
            have HB := n2_
            have BK249 := n3_
            have GW249 := n4_
            have GE249 := n5_
            have NB241_249 := n6_
            have NB249_241 := n7_
            have NB242_249 := n8_
            have NB249_242 := n9_
            clear n0_ n1_ n2_ n3_ n4_ n5_ n6_ n7_ n8_ n9_
            clear hb hbox hg
            refine hK.out _ _ ⟨(blk_cell BK241.out 0).trans rfl, (blk_cell BK241.out 1).trans rfl, (blk_cell BK241.out 2).trans rfl⟩ (fun hHeld => ?_)
            clear hK K
            refine norm_ (a' := ?_) ?_ ?_
            rotate_left
            ·show Act.put _ (some 3) _ = _
             simp only [Act.put, List.setIfInBounds_toArray, List.set_cons_zero, List.set_cons_succ, i64_w, i32_w]
             rfl
            exact norm_ (zq76) (hJ3_6_19 (gb249) _ ⟨hHeld, (zq71), (zq77), (zq82), GW249.out, GE249.out, NB241_249.out, NB249_241.out, NB242_249.out, NB249_242.out, (zq83)⟩)
         ·skip
          rintro gb249 w14 ⟨hS_, h0_, h1_, h2_, h3_, h4_, h5_, h6_, h7_, h8_, h9_⟩
          have n0_ : Aside0 (w14.heap[gb241]? = some (.cells #[.int .i64 a0_0, .int .i64 a0_1, .int .i64 a0_2] 23 (0, 0))) := ⟨h0_⟩
          have n1_ : Aside0 (w14.heap[gb242]? = some (.cells #[.string (⟨#[]⟩ : ByteArray), .string (⟨#[]⟩ : ByteArray), .int .i64 0] 29 (0, 0))) := ⟨h1_⟩
          have n2_ : Aside0 (w14.heap[gb249]? = some (.cells #[.string (⟨#[]⟩ : ByteArray), .string (⟨#[]⟩ : ByteArray), .int .i64 0] 29 (0, 0))) := ⟨h2_⟩
          have n3_ : Aside0 (w.heap.size ≤ gb249) := ⟨h3_⟩
          have n4_ : Aside0 (w.heap.size ≤ gb249) := ⟨h4_⟩
          have n5_ : Aside0 (gb241 ≠ gb249) := ⟨h5_⟩
          have n6_ : Aside0 (gb249 ≠ gb241) := ⟨h6_⟩
          have n7_ : Aside0 (gb242 ≠ gb249) := ⟨h7_⟩
          have n8_ : Aside0 (gb249 ≠ gb242) := ⟨h8_⟩
          have n9_ : Aside0 (Below w.heap.size w w14) := ⟨h9_⟩
          clear BK241
          clear BK242
          clear HB
          clear h0_ h1_ h2_ h3_ h4_ h5_ h6_ h7_ h8_ h9_
          have BK241 := n0_
          have BK242 := n1_
          have BK249 := n2_
          have GW249 := n3_
          have GE249 := n4_
          have NB241_249 := n5_
          have NB249_241 := n6_
          have NB242_249 := n7_
          have NB249_242 := n8_
          have HB := n9_
          clear n0_ n1_ n2_ n3_ n4_ n5_ n6_ n7_ n8_ n9_
          have hHeld : w14.cell? ⟨gb241, 0, none⟩ = some (.int .i64 a0_0) ∧ w14.cell? ⟨gb241, 1, none⟩ = some (.int .i64 a0_1) ∧ w14.cell? ⟨gb241, 2, none⟩ = some (.int .i64 a0_2) := hS_
          refine norm_ (a' := ?_) ?_ ?_
          rotate_left
          ·simp only [putAll, Act.put, List.setIfInBounds_toArray, List.set_cons_zero, List.set_cons_succ]
           rfl
          refine one_ (i := 8) (N := some 12) #[true, true, true, true, true, true, true, true, true, true, true, true, false, true, true, false, false, false, false, true, false] rfl rfl (one_of HT_.out (by kernel_rfl)) (by decide) (fun K hK => ?_)
          refine goes_ Tryz.func34 (by kernel_rfl) rfl #[.int .i64 t243, .int .i64 (wrap64 (1 + t244))] (by rfl) rfl rfl (zq3) ?_
          with_reducible refine (dialtoneref12_prefix.calls k t243 (wrap64 (1 + t244)) t245 _ A4.out).mono ?_
          rintro e w15 ⟨rfl, hb⟩
          refine ⟨_, rfl, ?_⟩
          have n0_ := Aside0.mk (blk_below (g := gb241) (o := .cells #[.int .i64 a0_0, .int .i64 a0_1, .int .i64 a0_2] 23 (0, 0)) (zq71) hb)
          have n1_ := Aside0.mk (blk_below (g := gb242) (o := .cells #[.string (⟨#[]⟩ : ByteArray), .string (⟨#[]⟩ : ByteArray), .int .i64 0] 29 (0, 0)) (zq77) hb)
          have n2_ := Aside0.mk (blk_below (g := gb249) (o := .cells #[.string (⟨#[]⟩ : ByteArray), .string (⟨#[]⟩ : ByteArray), .int .i64 0] 29 (0, 0)) (zq82) hb)
          have n3_ := Aside0.mk (below_step (zq83) hb)
          clear BK241
          clear BK242
          clear BK249
          clear HB
          have BK241 := n0_
          have BK242 := n1_
          have BK249 := n2_
          have HB := n3_
          clear n0_ n1_ n2_ n3_
          (try clear hb)
          (try clear hb2)
          (try clear hk)
          (try clear hi)
          refine hK.out _ _ ⟨(blk_cell BK241.out 0).trans rfl, (blk_cell BK241.out 1).trans rfl, (blk_cell BK241.out 2).trans rfl⟩ (fun hHeld => ?_)
          clear hK K
          refine norm_ (a' := ?_) ?_ ?_
          rotate_left
          ·show Act.put _ (some 12) _ = _
           simp only [Act.put, List.setIfInBounds_toArray, List.set_cons_zero, List.set_cons_succ, i64_w, i32_w]
           rfl
          exact norm_ (zq76) (hJ3_6_8_19 (gb249) _ ⟨hHeld, (zq71), (zq77), (zq82), GW249.out, GE249.out, NB241_249.out, NB249_241.out, NB242_249.out, NB249_242.out, (zq83)⟩)
        ·skip
         rintro _ w14 ⟨hS_, h0_, h1_, h2_⟩
         have n0_ : Aside0 (w14.heap[gb241]? = some (.cells #[.int .i64 a0_0, .int .i64 a0_1, .int .i64 a0_2] 23 (0, 0))) := ⟨h0_⟩
         have n1_ : Aside0 (w14.heap[gb242]? = some (.cells #[.string (⟨#[]⟩ : ByteArray), .string (⟨#[]⟩ : ByteArray), .int .i64 0] 29 (0, 0))) := ⟨h1_⟩
         have n2_ : Aside0 (Below w.heap.size w w14) := ⟨h2_⟩
         clear BK241
         clear BK242
         clear HB
         clear h0_ h1_ h2_
         have BK241 := n0_
         have BK242 := n1_
         have HB := n2_
         clear n0_ n1_ n2_
         have hHeld : w14.cell? ⟨gb241, 0, none⟩ = some (.int .i64 a0_0) ∧ w14.cell? ⟨gb241, 1, none⟩ = some (.int .i64 a0_1) ∧ w14.cell? ⟨gb241, 2, none⟩ = some (.int .i64 a0_2) := hS_
         refine norm_ (a' := ?_) ?_ ?_
         rotate_left
         ·simp only [putAll, Act.put, List.setIfInBounds_toArray, List.set_cons_zero, List.set_cons_succ]
          rfl
         refine two_ (i := 12) (j := 19) (Ni := some 16) (Nj := some 3) #[true, true, true, true, true, true, true, true, true, true, true, true, true, true, true, false, false, false, false, false, false] #[true, true, true, true, true, true, true, true, true, true, true, true, false, true, true, false, false, false, false, true, false] rfl rfl rfl rfl (two_of HT_.out (by kernel_rfl)) (by decide) (by decide) (fun K hK => ?_) (fun K hK => ?_)
         ·skip
          refine goes_ Tryz.func33 (by kernel_rfl) rfl #[.int .i64 (wrap64 (Int.tdiv a0_1 3)), .int .i64 1000] (by rfl) rfl rfl (zq3) ?_
          with_reducible refine (dialtoneref12_pick.calls (wrap64 (Int.tdiv a0_1 3)) 1000 t246 _ A5.out).mono ?_
          rintro e w' ⟨rfl, ⟨nd, rfl⟩⟩
          refine ⟨_, rfl, ?_⟩
          refine hK.out _ _ ⟨(blk_cell BK241.out 0).trans rfl, (blk_cell BK241.out 1).trans rfl, (blk_cell BK241.out 2).trans rfl⟩ (fun hHeld => ?_)
          clear hK K
          refine norm_ (a' := ?_) ?_ ?_
          rotate_left
          ·show Act.put _ (some 16) _ = _
           simp only [Act.put, List.setIfInBounds_toArray, List.set_cons_zero, List.set_cons_succ, i64_w, i32_w]
           rfl
          exact norm_ (zq76) (hJ3_6_8_12 () _ ⟨hHeld, (zq71), (zq77), (zq78)⟩)
         ·skip
          refine box_step ?hg (N := 3) ?hd (cs := #[.string (⟨#[]⟩ : ByteArray), .string (⟨#[]⟩ : ByteArray), .int .i64 0]) (t := 29) ?hr ?_; (case hd => rfl); (case hg => rfl); (case hr => exact zq0)
          intro gb249 hg w15 hbox hb
          have n0_ := Aside0.mk (blk_below (g := gb241) (o := .cells #[.int .i64 a0_0, .int .i64 a0_1, .int .i64 a0_2] 23 (0, 0)) (zq71) hb)
          have n1_ := Aside0.mk (blk_below (g := gb242) (o := .cells #[.string (⟨#[]⟩ : ByteArray), .string (⟨#[]⟩ : ByteArray), .int .i64 0] 29 (0, 0)) (zq77) hb)
          have n2_ := Aside0.mk (below_step (zq78) hb)
          have n3_ := Aside0.mk (hbox)
          have n4_ := Aside0.mk ((zq79 : w.heap.size ≤ gb249))
          have n5_ := Aside0.mk ((zq79 : w.heap.size ≤ gb249))
          have n6_ := Aside0.mk ((zq74 : gb241 ≠ gb249))
          have n7_ := Aside0.mk ((zq75 : gb249 ≠ gb241))
          have n8_ := Aside0.mk ((zq80 : gb242 ≠ gb249))
          have n9_ := Aside0.mk ((zq81 : gb249 ≠ gb242))
          clear BK241
          clear BK242
          clear HB
          have BK241 := n0_
          have BK242 := n1_
          have HB := n2_
          have BK249 := n3_
          have GW249 := n4_
          have GE249 := n5_
          have NB241_249 := n6_
          have NB249_241 := n7_
          have NB242_249 := n8_
          have NB249_242 := n9_
          clear n0_ n1_ n2_ n3_ n4_ n5_ n6_ n7_ n8_ n9_
          clear hb hbox hg
          refine hK.out _ _ ⟨(blk_cell BK241.out 0).trans rfl, (blk_cell BK241.out 1).trans rfl, (blk_cell BK241.out 2).trans rfl⟩ (fun hHeld => ?_)
          clear hK K
          refine norm_ (a' := ?_) ?_ ?_
          rotate_left
          ·show Act.put _ (some 3) _ = _
           simp only [Act.put, List.setIfInBounds_toArray, List.set_cons_zero, List.set_cons_succ, i64_w, i32_w]
           rfl
          exact norm_ (zq76) (hJ3_6_8_19 (gb249) _ ⟨hHeld, (zq71), (zq77), (zq82), GW249.out, GE249.out, NB241_249.out, NB249_241.out, NB242_249.out, NB249_242.out, (zq83)⟩)
       ·skip
        rintro gb249 w15 ⟨hS_, h0_, h1_, h2_, h3_, h4_, h5_, h6_, h7_, h8_, h9_⟩
        have n0_ : Aside0 (w15.heap[gb241]? = some (.cells #[.int .i64 a0_0, .int .i64 a0_1, .int .i64 a0_2] 23 (0, 0))) := ⟨h0_⟩
        have n1_ : Aside0 (w15.heap[gb242]? = some (.cells #[.string (⟨#[]⟩ : ByteArray), .string (⟨#[]⟩ : ByteArray), .int .i64 0] 29 (0, 0))) := ⟨h1_⟩
        have n2_ : Aside0 (w15.heap[gb249]? = some (.cells #[.string (⟨#[]⟩ : ByteArray), .string (⟨#[]⟩ : ByteArray), .int .i64 0] 29 (0, 0))) := ⟨h2_⟩
        have n3_ : Aside0 (w.heap.size ≤ gb249) := ⟨h3_⟩
        have n4_ : Aside0 (w.heap.size ≤ gb249) := ⟨h4_⟩
        have n5_ : Aside0 (gb241 ≠ gb249) := ⟨h5_⟩
        have n6_ : Aside0 (gb249 ≠ gb241) := ⟨h6_⟩
        have n7_ : Aside0 (gb242 ≠ gb249) := ⟨h7_⟩
        have n8_ : Aside0 (gb249 ≠ gb242) := ⟨h8_⟩
        have n9_ : Aside0 (Below w.heap.size w w15) := ⟨h9_⟩
        clear BK241
        clear BK242
        clear HB
        clear h0_ h1_ h2_ h3_ h4_ h5_ h6_ h7_ h8_ h9_
        have BK241 := n0_
        have BK242 := n1_
        have BK249 := n2_
        have GW249 := n3_
        have GE249 := n4_
        have NB241_249 := n5_
        have NB249_241 := n6_
        have NB242_249 := n7_
        have NB249_242 := n8_
        have HB := n9_
        clear n0_ n1_ n2_ n3_ n4_ n5_ n6_ n7_ n8_ n9_
        have hHeld : w15.cell? ⟨gb241, 0, none⟩ = some (.int .i64 a0_0) ∧ w15.cell? ⟨gb241, 1, none⟩ = some (.int .i64 a0_1) ∧ w15.cell? ⟨gb241, 2, none⟩ = some (.int .i64 a0_2) := hS_
        refine norm_ (a' := ?_) ?_ ?_
        rotate_left
        ·simp only [putAll, Act.put, List.setIfInBounds_toArray, List.set_cons_zero, List.set_cons_succ]
         rfl
        refine one_ (i := 12) (N := some 16) #[true, true, true, true, true, true, true, true, true, true, true, true, true, true, true, false, false, false, false, true, false] rfl rfl (one_of HT_.out (by kernel_rfl)) (by decide) (fun K hK => ?_)
        refine goes_ Tryz.func33 (by kernel_rfl) rfl #[.int .i64 (wrap64 (Int.tdiv a0_1 3)), .int .i64 1000] (by rfl) rfl rfl (zq3) ?_
        with_reducible refine (dialtoneref12_pick.calls (wrap64 (Int.tdiv a0_1 3)) 1000 t246 _ A5.out).mono ?_
        rintro e w' ⟨rfl, ⟨nd, rfl⟩⟩
        refine ⟨_, rfl, ?_⟩
        refine hK.out _ _ ⟨(blk_cell BK241.out 0).trans rfl, (blk_cell BK241.out 1).trans rfl, (blk_cell BK241.out 2).trans rfl⟩ (fun hHeld => ?_)
        clear hK K
        refine norm_ (a' := ?_) ?_ ?_
        rotate_left
        ·show Act.put _ (some 16) _ = _
         simp only [Act.put, List.setIfInBounds_toArray, List.set_cons_zero, List.set_cons_succ, i64_w, i32_w]
         rfl
        exact norm_ (zq76) (hJ3_6_8_12_19 (gb249) _ ⟨hHeld, (zq71), (zq77), (zq82), GW249.out, GE249.out, NB241_249.out, NB249_241.out, NB242_249.out, NB249_242.out, (zq83)⟩)
      ·skip
       rintro _ w14 ⟨hS_, h0_, h1_, h2_⟩
       have n0_ : Aside0 (w14.heap[gb241]? = some (.cells #[.int .i64 a0_0, .int .i64 a0_1, .int .i64 a0_2] 23 (0, 0))) := ⟨h0_⟩
       have n1_ : Aside0 (w14.heap[gb242]? = some (.cells #[.string (⟨#[]⟩ : ByteArray), .string (⟨#[]⟩ : ByteArray), .int .i64 0] 29 (0, 0))) := ⟨h1_⟩
       have n2_ : Aside0 (Below w.heap.size w w14) := ⟨h2_⟩
       clear BK241
       clear BK242
       clear HB
       clear h0_ h1_ h2_
       have BK241 := n0_
       have BK242 := n1_
       have HB := n2_
       clear n0_ n1_ n2_
       have hHeld : w14.cell? ⟨gb241, 0, none⟩ = some (.int .i64 a0_0) ∧ w14.cell? ⟨gb241, 1, none⟩ = some (.int .i64 a0_1) ∧ w14.cell? ⟨gb241, 2, none⟩ = some (.int .i64 a0_2) := hS_
       refine norm_ (a' := ?_) ?_ ?_
       rotate_left
       ·simp only [putAll, Act.put, List.setIfInBounds_toArray, List.set_cons_zero, List.set_cons_succ]
        rfl
       refine two_ (i := 15) (j := 19) (Ni := some 19) (Nj := some 3) #[true, true, true, true, true, true, true, true, true, true, true, true, true, true, true, true, false, false, false, false, false] #[true, true, true, true, true, true, true, true, true, true, true, true, true, true, true, false, false, false, false, true, false] rfl rfl rfl rfl (two_of HT_.out (by kernel_rfl)) (by decide) (by decide) (fun K hK => ?_) (fun K hK => ?_)
       ·skip
        refine goes_ Tryz.func33 (by kernel_rfl) rfl #[.int .i64 a0_1, .int .i64 3] (by rfl) rfl rfl (zq3) ?_
        with_reducible refine (dialtoneref12_pick.calls a0_1 3 t247 _ A6.out).mono ?_
        rintro e w' ⟨rfl, ⟨nd, rfl⟩⟩
        refine ⟨_, rfl, ?_⟩
        refine hK.out _ _ ⟨(blk_cell BK241.out 0).trans rfl, (blk_cell BK241.out 1).trans rfl, (blk_cell BK241.out 2).trans rfl⟩ (fun hHeld => ?_)
        clear hK K
        refine norm_ (a' := ?_) ?_ ?_
        rotate_left
        ·show Act.put _ (some 19) _ = _
         simp only [Act.put, List.setIfInBounds_toArray, List.set_cons_zero, List.set_cons_succ, i64_w, i32_w]
         rfl
        refine pure_ (i := 16) (N := some 20) (v := ?_) (a' := ?_) #[true, true, true, true, true, true, true, true, true, true, true, true, true, true, true, true, true, false, false, false, false] rfl rfl (any_of HT_.out (by kernel_rfl)) (fun _ _ _ h => h) (Or.inl ⟨by rfl, ?_⟩) ?_ ?_
        rotate_left
        ·intro w'
         go_simp
         with_reducible rfl
        rotate_left
        ·simp only [Act.put, List.setIfInBounds_toArray, List.set_cons_zero, List.set_cons_succ, i64_w, i32_w]
         rfl
        exact norm_ (zq76) (hJ3_6_8_12_15 () _ ⟨hHeld, (zq71), (zq77), (zq78)⟩)
       ·skip
        refine box_step ?hg (N := 3) ?hd (cs := #[.string (⟨#[]⟩ : ByteArray), .string (⟨#[]⟩ : ByteArray), .int .i64 0]) (t := 29) ?hr ?_; (case hd => rfl); (case hg => rfl); (case hr => exact zq0)
        intro gb249 hg w15 hbox hb
        have n0_ := Aside0.mk (blk_below (g := gb241) (o := .cells #[.int .i64 a0_0, .int .i64 a0_1, .int .i64 a0_2] 23 (0, 0)) (zq71) hb)
        have n1_ := Aside0.mk (blk_below (g := gb242) (o := .cells #[.string (⟨#[]⟩ : ByteArray), .string (⟨#[]⟩ : ByteArray), .int .i64 0] 29 (0, 0)) (zq77) hb)
        have n2_ := Aside0.mk (below_step (zq78) hb)
        have n3_ := Aside0.mk (hbox)
        have n4_ := Aside0.mk ((zq79 : w.heap.size ≤ gb249))
        have n5_ := Aside0.mk ((zq79 : w.heap.size ≤ gb249))
        have n6_ := Aside0.mk ((zq74 : gb241 ≠ gb249))
        have n7_ := Aside0.mk ((zq75 : gb249 ≠ gb241))
        have n8_ := Aside0.mk ((zq80 : gb242 ≠ gb249))
        have n9_ := Aside0.mk ((zq81 : gb249 ≠ gb242))
        clear BK241
        clear BK242
        clear HB
        have BK241 := n0_
        have BK242 := n1_
        have HB := n2_
        have BK249 := n3_
        have GW249 := n4_
        have GE249 := n5_
        have NB241_249 := n6_
        have NB249_241 := n7_
        have NB242_249 := n8_
        have NB249_242 := n9_
        clear n0_ n1_ n2_ n3_ n4_ n5_ n6_ n7_ n8_ n9_
        clear hb hbox hg
        refine hK.out _ _ ⟨(blk_cell BK241.out 0).trans rfl, (blk_cell BK241.out 1).trans rfl, (blk_cell BK241.out 2).trans rfl⟩ (fun hHeld => ?_)
        clear hK K
        refine norm_ (a' := ?_) ?_ ?_
        rotate_left
        ·show Act.put _ (some 3) _ = _
         simp only [Act.put, List.setIfInBounds_toArray, List.set_cons_zero, List.set_cons_succ, i64_w, i32_w]
         rfl
        exact norm_ (zq76) (hJ3_6_8_12_19 (gb249) _ ⟨hHeld, (zq71), (zq77), (zq82), GW249.out, GE249.out, NB241_249.out, NB249_241.out, NB242_249.out, NB249_242.out, (zq83)⟩)
     ·skip
      rintro gb249 w15 ⟨hS_, h0_, h1_, h2_, h3_, h4_, h5_, h6_, h7_, h8_, h9_⟩
      have n0_ : Aside0 (w15.heap[gb241]? = some (.cells #[.int .i64 a0_0, .int .i64 a0_1, .int .i64 a0_2] 23 (0, 0))) := ⟨h0_⟩
      have n1_ : Aside0 (w15.heap[gb242]? = some (.cells #[.string (⟨#[]⟩ : ByteArray), .string (⟨#[]⟩ : ByteArray), .int .i64 0] 29 (0, 0))) := ⟨h1_⟩
      have n2_ : Aside0 (w15.heap[gb249]? = some (.cells #[.string (⟨#[]⟩ : ByteArray), .string (⟨#[]⟩ : ByteArray), .int .i64 0] 29 (0, 0))) := ⟨h2_⟩
      have n3_ : Aside0 (w.heap.size ≤ gb249) := ⟨h3_⟩
      have n4_ : Aside0 (w.heap.size ≤ gb249) := ⟨h4_⟩
      have n5_ : Aside0 (gb241 ≠ gb249) := ⟨h5_⟩
      have n6_ : Aside0 (gb249 ≠ gb241) := ⟨h6_⟩
      have n7_ : Aside0 (gb242 ≠ gb249) := ⟨h7_⟩
      have n8_ : Aside0 (gb249 ≠ gb242) := ⟨h8_⟩
      have n9_ : Aside0 (Below w.heap.size w w15) := ⟨h9_⟩
      clear BK241
      clear BK242
      clear HB
      clear h0_ h1_ h2_ h3_ h4_ h5_ h6_ h7_ h8_ h9_
      have BK241 := n0_
      have BK242 := n1_
      have BK249 := n2_
      have GW249 := n3_
      have GE249 := n4_
      have NB241_249 := n5_
      have NB249_241 := n6_
      have NB242_249 := n7_
      have NB249_242 := n8_
      have HB := n9_
      clear n0_ n1_ n2_ n3_ n4_ n5_ n6_ n7_ n8_ n9_
      have hHeld : w15.cell? ⟨gb241, 0, none⟩ = some (.int .i64 a0_0) ∧ w15.cell? ⟨gb241, 1, none⟩ = some (.int .i64 a0_1) ∧ w15.cell? ⟨gb241, 2, none⟩ = some (.int .i64 a0_2) := hS_
      refine norm_ (a' := ?_) ?_ ?_
      rotate_left
      ·simp only [putAll, Act.put, List.setIfInBounds_toArray, List.set_cons_zero, List.set_cons_succ]
       rfl
      refine one_ (i := 15) (N := some 19) #[true, true, true, true, true, true, true, true, true, true, true, true, true, true, true, true, false, false, false, true, false] rfl rfl (one_of HT_.out (by kernel_rfl)) (by decide) (fun K hK => ?_)
      refine goes_ Tryz.func33 (by kernel_rfl) rfl #[.int .i64 a0_1, .int .i64 3] (by rfl) rfl rfl (zq3) ?_
      with_reducible refine (dialtoneref12_pick.calls a0_1 3 t247 _ A6.out).mono ?_
      rintro e w' ⟨rfl, ⟨nd, rfl⟩⟩
      refine ⟨_, rfl, ?_⟩
      refine hK.out _ _ ⟨(blk_cell BK241.out 0).trans rfl, (blk_cell BK241.out 1).trans rfl, (blk_cell BK241.out 2).trans rfl⟩ (fun hHeld => ?_)
      clear hK K
      refine norm_ (a' := ?_) ?_ ?_
      rotate_left
      ·show Act.put _ (some 19) _ = _
       simp only [Act.put, List.setIfInBounds_toArray, List.set_cons_zero, List.set_cons_succ, i64_w, i32_w]
       rfl
      refine pure_ (i := 16) (N := some 20) (v := ?_) (a' := ?_) #[true, true, true, true, true, true, true, true, true, true, true, true, true, true, true, true, true, false, false, true, false] rfl rfl (any_of HT_.out (by kernel_rfl)) (fun _ _ _ h => h) (Or.inl ⟨by rfl, ?_⟩) ?_ ?_
      rotate_left
      ·intro w'
       go_simp
       with_reducible rfl
      rotate_left
      ·simp only [Act.put, List.setIfInBounds_toArray, List.set_cons_zero, List.set_cons_succ, i64_w, i32_w]
       rfl
      exact norm_ (zq76) (hJ3_6_8_12_15_19 (gb249) _ ⟨hHeld, (zq71), (zq77), (zq82), GW249.out, GE249.out, NB241_249.out, NB249_241.out, NB242_249.out, NB249_242.out, (zq83)⟩)
    ·skip
     rintro _ w14 ⟨hS_, h0_, h1_, h2_⟩
     have n0_ : Aside0 (w14.heap[gb241]? = some (.cells #[.int .i64 a0_0, .int .i64 a0_1, .int .i64 a0_2] 23 (0, 0))) := ⟨h0_⟩
     have n1_ : Aside0 (w14.heap[gb242]? = some (.cells #[.string (⟨#[]⟩ : ByteArray), .string (⟨#[]⟩ : ByteArray), .int .i64 0] 29 (0, 0))) := ⟨h1_⟩
     have n2_ : Aside0 (Below w.heap.size w w14) := ⟨h2_⟩
     clear BK241
     clear BK242
     clear HB
     clear h0_ h1_ h2_
     have BK241 := n0_
     have BK242 := n1_
     have HB := n2_
     clear n0_ n1_ n2_
     have hHeld : w14.cell? ⟨gb241, 0, none⟩ = some (.int .i64 a0_0) ∧ w14.cell? ⟨gb241, 1, none⟩ = some (.int .i64 a0_1) ∧ w14.cell? ⟨gb241, 2, none⟩ = some (.int .i64 a0_2) := hS_
     refine norm_ (a' := ?_) ?_ ?_
     rotate_left
     ·simp only [putAll, Act.put, List.setIfInBounds_toArray, List.set_cons_zero, List.set_cons_succ]
      rfl
     refine two_ (i := 17) (j := 19) (Ni := some 21) (Nj := some 3) #[true, true, true, true, true, true, true, true, true, true, true, true, true, true, true, true, true, true, false, false, false] #[true, true, true, true, true, true, true, true, true, true, true, true, true, true, true, true, true, false, false, true, false] rfl rfl rfl rfl (two_of HT_.out (by kernel_rfl)) (by decide) (by decide) (fun K hK => ?_) (fun K hK => ?_)
     ·skip
      refine goes_ Tryz.func34 (by kernel_rfl) rfl #[.int .i64 t246, .int .i64 (wrap64 (1 + t247))] (by rfl) rfl rfl (zq3) ?_
      with_reducible refine (dialtoneref12_prefix.calls k t246 (wrap64 (1 + t247)) t248 _ A7.out).mono ?_
      rintro e w15 ⟨rfl, hb⟩
      refine ⟨_, rfl, ?_⟩
      have n0_ := Aside0.mk (blk_below (g := gb241) (o := .cells #[.int .i64 a0_0, .int .i64 a0_1, .int .i64 a0_2] 23 (0, 0)) (zq71) hb)
      have n1_ := Aside0.mk (blk_below (g := gb242) (o := .cells #[.string (⟨#[]⟩ : ByteArray), .string (⟨#[]⟩ : ByteArray), .int .i64 0] 29 (0, 0)) (zq77) hb)
      have n2_ := Aside0.mk (below_step (zq78) hb)
      clear BK241
      clear BK242
      clear HB
      have BK241 := n0_
      have BK242 := n1_
      have HB := n2_
      clear n0_ n1_ n2_
      (try clear hb)
      (try clear hb2)
      (try clear hk)
      (try clear hi)
      refine hK.out _ _ ⟨(blk_cell BK241.out 0).trans rfl, (blk_cell BK241.out 1).trans rfl, (blk_cell BK241.out 2).trans rfl⟩ (fun hHeld => ?_)
      clear hK K
      refine norm_ (a' := ?_) ?_ ?_
      rotate_left
      ·show Act.put _ (some 21) _ = _
       simp only [Act.put, List.setIfInBounds_toArray, List.set_cons_zero, List.set_cons_succ, i64_w, i32_w]
       rfl
      refine pure_ (i := 18) (N := some 22) (v := ?_) (a' := ?_) #[true, true, true, true, true, true, true, true, true, true, true, true, true, true, true, true, true, true, true, false, false] rfl rfl (any_of HT_.out (by kernel_rfl)) (fun _ _ _ h => h) (Or.inl ⟨by rfl, ?_⟩) ?_ ?_
      rotate_left
      ·intro w'
       go_simp
       with_reducible rfl
      rotate_left
      ·simp only [Act.put, List.setIfInBounds_toArray, List.set_cons_zero, List.set_cons_succ, i64_w, i32_w]
       rfl
      exact norm_ (zq76) (hJ3_6_8_12_15_17 () _ ⟨hHeld, (zq71), (zq77), (zq78)⟩)
     ·skip
      refine box_step ?hg (N := 3) ?hd (cs := #[.string (⟨#[]⟩ : ByteArray), .string (⟨#[]⟩ : ByteArray), .int .i64 0]) (t := 29) ?hr ?_; (case hd => rfl); (case hg => rfl); (case hr => exact zq0)
      intro gb249 hg w15 hbox hb
      have n0_ := Aside0.mk (blk_below (g := gb241) (o := .cells #[.int .i64 a0_0, .int .i64 a0_1, .int .i64 a0_2] 23 (0, 0)) (zq71) hb)
      have n1_ := Aside0.mk (blk_below (g := gb242) (o := .cells #[.string (⟨#[]⟩ : ByteArray), .string (⟨#[]⟩ : ByteArray), .int .i64 0] 29 (0, 0)) (zq77) hb)
      have n2_ := Aside0.mk (below_step (zq78) hb)
      have n3_ := Aside0.mk (hbox)
      have n4_ := Aside0.mk ((zq79 : w.heap.size ≤ gb249))
      have n5_ := Aside0.mk ((zq79 : w.heap.size ≤ gb249))
      have n6_ := Aside0.mk ((zq74 : gb241 ≠ gb249))
      have n7_ := Aside0.mk ((zq75 : gb249 ≠ gb241))
      have n8_ := Aside0.mk ((zq80 : gb242 ≠ gb249))
      have n9_ := Aside0.mk ((zq81 : gb249 ≠ gb242))
      clear BK241
      clear BK242
      clear HB
      have BK241 := n0_
      have BK242 := n1_
      have HB := n2_
      have BK249 := n3_
      have GW249 := n4_
      have GE249 := n5_
      have NB241_249 := n6_
      have NB249_241 := n7_
      have NB242_249 := n8_
      have NB249_242 := n9_
      clear n0_ n1_ n2_ n3_ n4_ n5_ n6_ n7_ n8_ n9_
      clear hb hbox hg
      refine hK.out _ _ ⟨(blk_cell BK241.out 0).trans rfl, (blk_cell BK241.out 1).trans rfl, (blk_cell BK241.out 2).trans rfl⟩ (fun hHeld => ?_)
      clear hK K
      refine norm_ (a' := ?_) ?_ ?_
      rotate_left
      ·show Act.put _ (some 3) _ = _
       simp only [Act.put, List.setIfInBounds_toArray, List.set_cons_zero, List.set_cons_succ, i64_w, i32_w]
       rfl
      exact norm_ (zq76) (hJ3_6_8_12_15_19 (gb249) _ ⟨hHeld, (zq71), (zq77), (zq82), GW249.out, GE249.out, NB241_249.out, NB249_241.out, NB242_249.out, NB249_242.out, (zq83)⟩)
   ·skip
    rintro gb249 w15 ⟨hS_, h0_, h1_, h2_, h3_, h4_, h5_, h6_, h7_, h8_, h9_⟩
    have n0_ : Aside0 (w15.heap[gb241]? = some (.cells #[.int .i64 a0_0, .int .i64 a0_1, .int .i64 a0_2] 23 (0, 0))) := ⟨h0_⟩
    have n1_ : Aside0 (w15.heap[gb242]? = some (.cells #[.string (⟨#[]⟩ : ByteArray), .string (⟨#[]⟩ : ByteArray), .int .i64 0] 29 (0, 0))) := ⟨h1_⟩
    have n2_ : Aside0 (w15.heap[gb249]? = some (.cells #[.string (⟨#[]⟩ : ByteArray), .string (⟨#[]⟩ : ByteArray), .int .i64 0] 29 (0, 0))) := ⟨h2_⟩
    have n3_ : Aside0 (w.heap.size ≤ gb249) := ⟨h3_⟩
    have n4_ : Aside0 (w.heap.size ≤ gb249) := ⟨h4_⟩
    have n5_ : Aside0 (gb241 ≠ gb249) := ⟨h5_⟩
    have n6_ : Aside0 (gb249 ≠ gb241) := ⟨h6_⟩
    have n7_ : Aside0 (gb242 ≠ gb249) := ⟨h7_⟩
    have n8_ : Aside0 (gb249 ≠ gb242) := ⟨h8_⟩
    have n9_ : Aside0 (Below w.heap.size w w15) := ⟨h9_⟩
    clear BK241
    clear BK242
    clear HB
    clear h0_ h1_ h2_ h3_ h4_ h5_ h6_ h7_ h8_ h9_
    have BK241 := n0_
    have BK242 := n1_
    have BK249 := n2_
    have GW249 := n3_
    have GE249 := n4_
    have NB241_249 := n5_
    have NB249_241 := n6_
    have NB242_249 := n7_
    have NB249_242 := n8_
    have HB := n9_
    clear n0_ n1_ n2_ n3_ n4_ n5_ n6_ n7_ n8_ n9_
    have hHeld : w15.cell? ⟨gb241, 0, none⟩ = some (.int .i64 a0_0) ∧ w15.cell? ⟨gb241, 1, none⟩ = some (.int .i64 a0_1) ∧ w15.cell? ⟨gb241, 2, none⟩ = some (.int .i64 a0_2) := hS_
    refine norm_ (a' := ?_) ?_ ?_
    rotate_left
    ·simp only [putAll, Act.put, List.setIfInBounds_toArray, List.set_cons_zero, List.set_cons_succ]
     rfl
    refine one_ (i := 17) (N := some 21) #[true, true, true, true, true, true, true, true, true, true, true, true, true, true, true, true, true, true, false, true, false] rfl rfl (one_of HT_.out (by kernel_rfl)) (by decide) (fun K hK => ?_)
    refine goes_ Tryz.func34 (by kernel_rfl) rfl #[.int .i64 t246, .int .i64 (wrap64 (1 + t247))] (by rfl) rfl rfl (zq3) ?_
    with_reducible refine (dialtoneref12_prefix.calls k t246 (wrap64 (1 + t247)) t248 _ A7.out).mono ?_
    rintro e w16 ⟨rfl, hb⟩
    refine ⟨_, rfl, ?_⟩
    have n0_ := Aside0.mk (blk_below (g := gb241) (o := .cells #[.int .i64 a0_0, .int .i64 a0_1, .int .i64 a0_2] 23 (0, 0)) (zq71) hb)
    have n1_ := Aside0.mk (blk_below (g := gb242) (o := .cells #[.string (⟨#[]⟩ : ByteArray), .string (⟨#[]⟩ : ByteArray), .int .i64 0] 29 (0, 0)) (zq77) hb)
    have n2_ := Aside0.mk (blk_below (g := gb249) (o := .cells #[.string (⟨#[]⟩ : ByteArray), .string (⟨#[]⟩ : ByteArray), .int .i64 0] 29 (0, 0)) (zq82) hb)
    have n3_ := Aside0.mk (below_step (zq83) hb)
    clear BK241
    clear BK242
    clear BK249
    clear HB
    have BK241 := n0_
    have BK242 := n1_
    have BK249 := n2_
    have HB := n3_
    clear n0_ n1_ n2_ n3_
    (try clear hb)
    (try clear hb2)
    (try clear hk)
    (try clear hi)
    refine hK.out _ _ ⟨(blk_cell BK241.out 0).trans rfl, (blk_cell BK241.out 1).trans rfl, (blk_cell BK241.out 2).trans rfl⟩ (fun hHeld => ?_)
    clear hK K
    refine norm_ (a' := ?_) ?_ ?_
    rotate_left
    ·show Act.put _ (some 21) _ = _
     simp only [Act.put, List.setIfInBounds_toArray, List.set_cons_zero, List.set_cons_succ, i64_w, i32_w]
     rfl
    refine pure_ (i := 18) (N := some 22) (v := ?_) (a' := ?_) #[true, true, true, true, true, true, true, true, true, true, true, true, true, true, true, true, true, true, true, true, false] rfl rfl (any_of HT_.out (by kernel_rfl)) (fun _ _ _ h => h) (Or.inl ⟨by rfl, ?_⟩) ?_ ?_
    rotate_left
    ·intro w'
     go_simp
     with_reducible rfl
    rotate_left
    ·simp only [Act.put, List.setIfInBounds_toArray, List.set_cons_zero, List.set_cons_succ, i64_w, i32_w]
     rfl
    exact norm_ (zq76) (hJ3_6_8_12_15_17_19 (gb249) _ ⟨hHeld, (zq71), (zq77), (zq82), GW249.out, GE249.out, NB241_249.out, NB249_241.out, NB242_249.out, NB249_242.out, (zq83)⟩)
  ·skip
   rintro _ w15 ⟨hS_, h0_, h1_, h2_⟩
   have n0_ : Aside0 (w15.heap[gb241]? = some (.cells #[.int .i64 a0_0, .int .i64 a0_1, .int .i64 a0_2] 23 (0, 0))) := ⟨h0_⟩
   have n1_ : Aside0 (w15.heap[gb242]? = some (.cells #[.string (⟨#[]⟩ : ByteArray), .string (⟨#[]⟩ : ByteArray), .int .i64 0] 29 (0, 0))) := ⟨h1_⟩
   have n2_ : Aside0 (Below w.heap.size w w15) := ⟨h2_⟩
   clear BK241
   clear BK242
   clear HB
   clear h0_ h1_ h2_
   have BK241 := n0_
   have BK242 := n1_
   have HB := n2_
   clear n0_ n1_ n2_
   have hHeld : w15.cell? ⟨gb241, 0, none⟩ = some (.int .i64 a0_0) ∧ w15.cell? ⟨gb241, 1, none⟩ = some (.int .i64 a0_1) ∧ w15.cell? ⟨gb241, 2, none⟩ = some (.int .i64 a0_2) := hS_
   refine norm_ (a' := ?_) ?_ ?_
   rotate_left
   ·simp only [putAll, Act.put, List.setIfInBounds_toArray, List.set_cons_zero, List.set_cons_succ]
    rfl
   refine one_ (i := 19) (N := some 3) #[true, true, true, true, true, true, true, true, true, true, true, true, true, true, true, true, true, true, true, true, false] rfl rfl (one_of HT_.out (by kernel_rfl)) (by decide) (fun K hK => ?_)
   refine box_step ?hg (N := 3) ?hd (cs := #[.string (⟨#[]⟩ : ByteArray), .string (⟨#[]⟩ : ByteArray), .int .i64 0]) (t := 29) ?hr ?_; (case hd => rfl); (case hg => rfl); (case hr => exact zq0)
   intro gb249 hg w16 hbox hb
   have n0_ := Aside0.mk (blk_below (g := gb241) (o := .cells #[.int .i64 a0_0, .int .i64 a0_1, .int .i64 a0_2] 23 (0, 0)) (zq71) hb)
   have n1_ := Aside0.mk (blk_below (g := gb242) (o := .cells #[.string (⟨#[]⟩ : ByteArray), .string (⟨#[]⟩ : ByteArray), .int .i64 0] 29 (0, 0)) (zq77) hb)
   have n2_ := Aside0.mk (below_step (zq78) hb)
   have n3_ := Aside0.mk (hbox)
   have n4_ := Aside0.mk ((zq79 : w.heap.size ≤ gb249))
   have n5_ := Aside0.mk ((zq79 : w.heap.size ≤ gb249))
   have n6_ := Aside0.mk ((zq74 : gb241 ≠ gb249))
   have n7_ := Aside0.mk ((zq75 : gb249 ≠ gb241))
   have n8_ := Aside0.mk ((zq80 : gb242 ≠ gb249))
   have n9_ := Aside0.mk ((zq81 : gb249 ≠ gb242))
   clear BK241
   clear BK242
   clear HB
   have BK241 := n0_
   have BK242 := n1_
   have HB := n2_
   have BK249 := n3_
   have GW249 := n4_
   have GE249 := n5_
   have NB241_249 := n6_
   have NB249_241 := n7_
   have NB242_249 := n8_
   have NB249_242 := n9_
   clear n0_ n1_ n2_ n3_ n4_ n5_ n6_ n7_ n8_ n9_
   clear hb hbox hg
   refine hK.out _ _ ⟨(blk_cell BK241.out 0).trans rfl, (blk_cell BK241.out 1).trans rfl, (blk_cell BK241.out 2).trans rfl⟩ (fun hHeld => ?_)
   clear hK K
   refine norm_ (a' := ?_) ?_ ?_
   rotate_left
   ·show Act.put _ (some 3) _ = _
    simp only [Act.put, List.setIfInBounds_toArray, List.set_cons_zero, List.set_cons_succ, i64_w, i32_w]
    rfl
   exact norm_ (zq76) (hJ3_6_8_12_15_17_19 (gb249) _ ⟨hHeld, (zq71), (zq77), (zq82), GW249.out, GE249.out, NB241_249.out, NB249_241.out, NB242_249.out, NB249_242.out, (zq83)⟩)
 rintro gb249 w16 ⟨hS_, h0_, h1_, h2_, h3_, h4_, h5_, h6_, h7_, h8_, h9_⟩
 have n0_ : Aside0 (w16.heap[gb241]? = some (.cells #[.int .i64 a0_0, .int .i64 a0_1, .int .i64 a0_2] 23 (0, 0))) := ⟨h0_⟩
 have n1_ : Aside0 (w16.heap[gb242]? = some (.cells #[.string (⟨#[]⟩ : ByteArray), .string (⟨#[]⟩ : ByteArray), .int .i64 0] 29 (0, 0))) := ⟨h1_⟩
 have n2_ : Aside0 (w16.heap[gb249]? = some (.cells #[.string (⟨#[]⟩ : ByteArray), .string (⟨#[]⟩ : ByteArray), .int .i64 0] 29 (0, 0))) := ⟨h2_⟩
 have n3_ : Aside0 (w.heap.size ≤ gb249) := ⟨h3_⟩
 have n4_ : Aside0 (w.heap.size ≤ gb249) := ⟨h4_⟩
 have n5_ : Aside0 (gb241 ≠ gb249) := ⟨h5_⟩
 have n6_ : Aside0 (gb249 ≠ gb241) := ⟨h6_⟩
 have n7_ : Aside0 (gb242 ≠ gb249) := ⟨h7_⟩
 have n8_ : Aside0 (gb249 ≠ gb242) := ⟨h8_⟩
 have n9_ : Aside0 (Below w.heap.size w w16) := ⟨h9_⟩
 clear BK241
 clear BK242
 clear HB
 clear h0_ h1_ h2_ h3_ h4_ h5_ h6_ h7_ h8_ h9_
 have BK241 := n0_
 have BK242 := n1_
 have BK249 := n2_
 have GW249 := n3_
 have GE249 := n4_
 have NB241_249 := n5_
 have NB249_241 := n6_
 have NB242_249 := n7_
 have NB249_242 := n8_
 have HB := n9_
 clear n0_ n1_ n2_ n3_ n4_ n5_ n6_ n7_ n8_ n9_
 have hHeld : w16.cell? ⟨gb241, 0, none⟩ = some (.int .i64 a0_0) ∧ w16.cell? ⟨gb241, 1, none⟩ = some (.int .i64 a0_1) ∧ w16.cell? ⟨gb241, 2, none⟩ = some (.int .i64 a0_2) := hS_
 refine norm_ (a' := ?_) ?_ ?_
 rotate_left
 ·simp only [putAll, Act.put, List.setIfInBounds_toArray, List.set_cons_zero, List.set_cons_succ]
  rfl
 refine one_ (i := 20) (N := none) #[true, true, true, true, true, true, true, true, true, true, true, true, true, true, true, true, true, true, true, true, true] rfl rfl (one_of HT_.out (by kernel_rfl)) (by decide) (fun K hK => ?_)
 have hs17 : w16.cell? ⟨gb249, 0, none⟩ = some (.string (⟨#[]⟩ : ByteArray)) := (blk_cell BK249.out 0).trans rfl
 have hfs17 := blk_frozen BK249.out 0
 have hns17_0 := NB241_249.out
 have hns17_1 := NB242_249.out
 have hms17_0 := NB249_241.out
 have hms17_1 := NB249_242.out
 have hs18 : w16.cell? ⟨gb249, 1, none⟩ = some (.string (⟨#[]⟩ : ByteArray)) := (blk_cell BK249.out 1).trans rfl
 have hfs18 := blk_frozen BK249.out 1
 have hns18_0 := NB241_249.out
 have hns18_1 := NB242_249.out
 have hms18_0 := NB249_241.out
 have hms18_1 := NB249_242.out
 have hs19 : w16.cell? ⟨gb249, 2, none⟩ = some (.int .i64 0) := (blk_cell BK249.out 2).trans rfl
 have hfs19 := blk_frozen BK249.out 2
 have hns19_0 := NB241_249.out
 have hns19_1 := NB242_249.out
 have hms19_0 := NB249_241.out
 have hms19_1 := NB249_242.out
 refine skip_ (w1 := ?_) (by rfl) rfl ?_ ?_
 rotate_left
 ·go_simp
  rfl
 refine hK.out _ _ ⟨((cell_far (p := ⟨gb249, _, none⟩) NB241_249.out _).trans (((cell_far (p := ⟨gb249, _, none⟩) NB241_249.out _).trans (((cell_far (p := ⟨gb249, _, none⟩) NB241_249.out _).trans (hHeld.1)))))), ((cell_far (p := ⟨gb249, _, none⟩) NB241_249.out _).trans (((cell_far (p := ⟨gb249, _, none⟩) NB241_249.out _).trans (((cell_far (p := ⟨gb249, _, none⟩) NB241_249.out _).trans (hHeld.2.1)))))), ((cell_far (p := ⟨gb249, _, none⟩) NB241_249.out _).trans (((cell_far (p := ⟨gb249, _, none⟩) NB241_249.out _).trans (((cell_far (p := ⟨gb249, _, none⟩) NB241_249.out _).trans (hHeld.2.2))))))⟩ (fun hHeld => ?_)
 clear hK K
 refine done_ (done_of HT_.out (by kernel_rfl)) ?_
 try go_wp2
 have n0_ : Aside0 ((((w16.setCell ⟨gb249, 0, none⟩ (.string t245)).setCell ⟨gb249, 1, none⟩ (.string t248)).setCell ⟨gb249, 2, none⟩ (.int .i64 0)).heap[gb241]? = some (.cells #[.int .i64 a0_0, .int .i64 a0_1, .int .i64 a0_2] 23 (0, 0))) := ⟨by (with_reducible repeat (first | refine blk_drewN ?_ _ | refine blk_drew ?_ | refine blk_alloc ?_ _)); refine blk_far ?_ NB241_249.out _; (with_reducible repeat (first | refine blk_drewN ?_ _ | refine blk_drew ?_ | refine blk_alloc ?_ _)); refine blk_far ?_ NB241_249.out _; (with_reducible repeat (first | refine blk_drewN ?_ _ | refine blk_drew ?_ | refine blk_alloc ?_ _)); refine blk_far ?_ NB241_249.out _; (with_reducible repeat (first | refine blk_drewN ?_ _ | refine blk_drew ?_ | refine blk_alloc ?_ _)); exact BK241.out⟩
 have n1_ : Aside0 ((((w16.setCell ⟨gb249, 0, none⟩ (.string t245)).setCell ⟨gb249, 1, none⟩ (.string t248)).setCell ⟨gb249, 2, none⟩ (.int .i64 0)).heap[gb242]? = some (.cells #[.string (⟨#[]⟩ : ByteArray), .string (⟨#[]⟩ : ByteArray), .int .i64 0] 29 (0, 0))) := ⟨by (with_reducible repeat (first | refine blk_drewN ?_ _ | refine blk_drew ?_ | refine blk_alloc ?_ _)); refine blk_far ?_ NB242_249.out _; (with_reducible repeat (first | refine blk_drewN ?_ _ | refine blk_drew ?_ | refine blk_alloc ?_ _)); refine blk_far ?_ NB242_249.out _; (with_reducible repeat (first | refine blk_drewN ?_ _ | refine blk_drew ?_ | refine blk_alloc ?_ _)); refine blk_far ?_ NB242_249.out _; (with_reducible repeat (first | refine blk_drewN ?_ _ | refine blk_drew ?_ | refine blk_alloc ?_ _)); exact BK242.out⟩
 have n2_ : Aside0 ((((w16.setCell ⟨gb249, 0, none⟩ (.string t245)).setCell ⟨gb249, 1, none⟩ (.string t248)).setCell ⟨gb249, 2, none⟩ (.int .i64 0)).heap[gb249]? = some (.cells #[.string t245, .string t248, .int .i64 0] 29 (0, 0))) := ⟨by (with_reducible repeat (first | refine blk_drewN ?_ _ | refine blk_drew ?_ | refine blk_alloc ?_ _)); refine blk_put (cs := #[.string t245, .string t248, .int .i64 0]) ?_ 2 _ rfl; (with_reducible repeat (first | refine blk_drewN ?_ _ | refine blk_drew ?_ | refine blk_alloc ?_ _)); refine blk_put (cs := #[.string t245, .string (⟨#[]⟩ : ByteArray), .int .i64 0]) ?_ 1 _ rfl; (with_reducible repeat (first | refine blk_drewN ?_ _ | refine blk_drew ?_ | refine blk_alloc ?_ _)); refine blk_put (cs := #[.string (⟨#[]⟩ : ByteArray), .string (⟨#[]⟩ : ByteArray), .int .i64 0]) ?_ 0 _ rfl; (with_reducible repeat (first | refine blk_drewN ?_ _ | refine blk_drew ?_ | refine blk_alloc ?_ _)); exact BK249.out⟩
 have n3_ : Aside0 (Below w.heap.size w (((w16.setCell ⟨gb249, 0, none⟩ (.string t245)).setCell ⟨gb249, 1, none⟩ (.string t248)).setCell ⟨gb249, 2, none⟩ (.int .i64 0))) := ⟨by repeat (first | (with_reducible first | exact HB.out | apply below_alloc | apply pw_below_drewN | apply below_drew1 | refine below_set ?_ GE241.out | refine below_set ?_ GE242.out | refine below_set ?_ GE249.out) | exact HB.out)⟩
 (try clear BK241)
 (try clear BK242)
 (try clear BK249)
 (try clear HB)
 generalize (((w16.setCell ⟨gb249, 0, none⟩ (.string t245)).setCell ⟨gb249, 1, none⟩ (.string t248)).setCell ⟨gb249, 2, none⟩ (.int .i64 0)) = w20 at n0_ n1_ n2_ n3_ ⊢
 have BK241 := n0_
 have BK242 := n1_
 have BK249 := n2_
 have HB := n3_
 clear n0_ n1_ n2_ n3_
 have n0_ := Aside0.mk (blk_drew BK241.out)
 have n1_ := Aside0.mk (blk_drew BK242.out)
 have n2_ := Aside0.mk (blk_drew BK249.out)
 have n3_ := Aside0.mk (below_drew1 HB.out)
 clear BK241
 clear BK242
 clear BK249
 clear HB
 have BK241 := n0_
 have BK242 := n1_
 have BK249 := n2_
 have HB := n3_
 clear n0_ n1_ n2_ n3_
 refine start_ (n := 19) (S := fun w' => w'.cell? ⟨gb249, 0, none⟩ = some (.string t245) ∧ w'.cell? ⟨gb249, 1, none⟩ = some (.string t248) ∧ w'.cell? ⟨gb249, 2, none⟩ = some (.int .i64 0) ∧ w'.cell? ⟨gb241, 0, none⟩ = some (.int .i64 a0_0) ∧ w'.cell? ⟨gb241, 1, none⟩ = some (.int .i64 a0_1) ∧ w'.cell? ⟨gb241, 2, none⟩ = some (.int .i64 a0_2)) (ds := [18]) #[false, false, false, false, false, false, false, false, false, false, false, false, false, false, false, false, false, false, false] (by kernel_rfl) rfl rfl ⟨(blk_cell BK249.out 0).trans rfl, (blk_cell BK249.out 1).trans rfl, (blk_cell BK249.out 2).trans rfl, (blk_cell BK241.out 0).trans rfl, (blk_cell BK241.out 1).trans rfl, (blk_cell BK241.out 2).trans rfl⟩ (fun hHeld => ?_); refine with_tabW dialtoneref12_One.tab2 dialtoneref12_One.bits2 (fun HT_ HW_ => ?_)
 generalize w20.drew = w21 at BK241 BK242 BK249 HB hHeld ⊢
 refine pure_ (i := 0) (N := some 23) (v := ?_) (a' := ?_) #[true, false, false, false, false, false, false, false, false, false, false, false, false, false, false, false, false, false, false] rfl rfl (any_of HT_.out (by kernel_rfl)) (fun _ _ _ h => h) (Or.inl ⟨by rfl, ?_⟩) ?_ ?_
 rotate_left
 ·intro w'
  go_simp
  with_reducible rfl
 rotate_left
 ·simp only [Act.put, List.setIfInBounds_toArray, List.set_cons_zero, List.set_cons_succ, i64_w, i32_w]
  rfl
 refine pure_ (i := 4) (N := some 27) (v := ?_) (a' := ?_) #[true, false, false, false, true, false, false, false, false, false, false, false, false, false, false, false, false, false, false] rfl rfl (any_of HT_.out (by kernel_rfl)) (fun _ _ _ h => h) (Or.inl ⟨by rfl, ?_⟩) ?_ ?_
 rotate_left
 ·intro w'
  go_simp
  with_reducible rfl
 rotate_left
 ·simp only [Act.put, List.setIfInBounds_toArray, List.set_cons_zero, List.set_cons_succ, i64_w, i32_w]
  rfl
 refine pure_ (i := 6) (N := some 29) (v := ?_) (a' := ?_) #[true, false, false, false, true, false, true, false, false, false, false, false, false, false, false, false, false, false, false] rfl rfl (any_of HT_.out (by kernel_rfl)) (fun _ _ _ h => h) (Or.inl ⟨by rfl, ?_⟩) ?_ ?_
 rotate_left
 ·intro w'
  go_simp
  with_reducible rfl
 rotate_left
 ·simp only [Act.put, List.setIfInBounds_toArray, List.set_cons_zero, List.set_cons_succ, i64_w, i32_w]
  rfl
 refine pure_ (i := 10) (N := some 33) (v := ?_) (a' := ?_) #[true, false, false, false, true, false, true, false, false, false, true, false, false, false, false, false, false, false, false] rfl rfl (any_of HT_.out (by kernel_rfl)) (fun _ _ _ h => h) (Or.inl ⟨by rfl, ?_⟩) ?_ ?_
 rotate_left
 ·intro w'
  go_simp
  with_reducible rfl
 rotate_left
 ·simp only [Act.put, List.setIfInBounds_toArray, List.set_cons_zero, List.set_cons_succ, i64_w, i32_w]
  rfl
 refine take_ (i := 1) (N := some 24) (v := ?_) (a' := ?_) #[true, true, false, false, true, false, true, false, false, false, true, false, false, false, false, false, false, false, false] rfl rfl (take_ofW HT_.out HW_.out (by kernel_rfl)) (fun _ _ _ h => h) (Or.inl ⟨by rfl, ?_⟩) hHeld ?_ ?_
 rotate_left
 ·rintro w' ⟨s0, s1, s2, s3, s4, s5⟩
  go_simp
  with_reducible rfl
 rotate_left
 ·simp only [Act.put, List.setIfInBounds_toArray, List.set_cons_zero, List.set_cons_succ, i64_w, i32_w]
  rfl
 refine pure_ (i := 2) (N := some 25) (v := ?_) (a' := ?_) #[true, true, true, false, true, false, true, false, false, false, true, false, false, false, false, false, false, false, false] rfl rfl (any_of HT_.out (by kernel_rfl)) (fun _ _ _ h => h) (Or.inl ⟨by rfl, ?_⟩) ?_ ?_
 rotate_left
 ·intro w'
  go_simp
  with_reducible rfl
 rotate_left
 ·simp only [Act.put, List.setIfInBounds_toArray, List.set_cons_zero, List.set_cons_succ, i64_w, i32_w]
  rfl
 refine pure_ (i := 3) (N := some 26) (v := ?_) (a' := ?_) #[true, true, true, true, true, false, true, false, false, false, true, false, false, false, false, false, false, false, false] rfl rfl (any_of HT_.out (by kernel_rfl)) (fun _ _ _ h => h) (Or.inl ⟨by rfl, ?_⟩) ?_ ?_
 rotate_left
 ·intro w'
  go_simp
  with_reducible rfl
 rotate_left
 ·simp only [Act.put, List.setIfInBounds_toArray, List.set_cons_zero, List.set_cons_succ, i64_w, i32_w]
  rfl
 refine take_ (i := 5) (N := some 28) (v := ?_) (a' := ?_) #[true, true, true, true, true, true, true, false, false, false, true, false, false, false, false, false, false, false, false] rfl rfl (take_ofW HT_.out HW_.out (by kernel_rfl)) (fun _ _ _ h => h) (Or.inl ⟨by rfl, ?_⟩) hHeld ?_ ?_
 rotate_left
 ·rintro w' ⟨s0, s1, s2, s3, s4, s5⟩
  go_simp
  with_reducible rfl
 rotate_left
 ·simp only [Act.put, List.setIfInBounds_toArray, List.set_cons_zero, List.set_cons_succ, i64_w, i32_w]
  rfl
 refine take_ (i := 7) (N := some 30) (v := ?_) (a' := ?_) #[true, true, true, true, true, true, true, true, false, false, true, false, false, false, false, false, false, false, false] rfl rfl (take_ofW HT_.out HW_.out (by kernel_rfl)) (fun _ _ _ h => h) (Or.inl ⟨by rfl, ?_⟩) hHeld ?_ ?_
 rotate_left
 ·rintro w' ⟨s0, s1, s2, s3, s4, s5⟩
  go_simp
  with_reducible rfl
 rotate_left
 ·simp only [Act.put, List.setIfInBounds_toArray, List.set_cons_zero, List.set_cons_succ, i64_w, i32_w]
  rfl
 refine pure_ (i := 8) (N := some 31) (v := ?_) (a' := ?_) #[true, true, true, true, true, true, true, true, true, false, true, false, false, false, false, false, false, false, false] rfl rfl (any_of HT_.out (by kernel_rfl)) (fun _ _ _ h => h) (Or.inl ⟨by rfl, ?_⟩) ?_ ?_
 rotate_left
 ·intro w'
  go_simp
  with_reducible rfl
 rotate_left
 ·simp only [Act.put, List.setIfInBounds_toArray, List.set_cons_zero, List.set_cons_succ, i64_w, i32_w]
  rfl
 refine pure_ (i := 9) (N := some 32) (v := ?_) (a' := ?_) #[true, true, true, true, true, true, true, true, true, true, true, false, false, false, false, false, false, false, false] rfl rfl (any_of HT_.out (by kernel_rfl)) (fun _ _ _ h => h) (Or.inl ⟨by rfl, ?_⟩) ?_ ?_
 rotate_left
 ·intro w'
  go_simp
  with_reducible rfl
 rotate_left
 ·simp only [Act.put, List.setIfInBounds_toArray, List.set_cons_zero, List.set_cons_succ, i64_w, i32_w]
  rfl
 refine take_ (i := 11) (N := some 34) (v := ?_) (a' := ?_) #[true, true, true, true, true, true, true, true, true, true, true, true, false, false, false, false, false, false, false] rfl rfl (take_ofW HT_.out HW_.out (by kernel_rfl)) (fun _ _ _ h => h) (Or.inl ⟨by rfl, ?_⟩) hHeld ?_ ?_
 rotate_left
 ·rintro w' ⟨s0, s1, s2, s3, s4, s5⟩
  go_simp
  with_reducible rfl
 rotate_left
 ·simp only [Act.put, List.setIfInBounds_toArray, List.set_cons_zero, List.set_cons_succ, i64_w, i32_w]
  rfl
 refine pure_ (i := 12) (N := some 35) (v := ?_) (a' := ?_) #[true, true, true, true, true, true, true, true, true, true, true, true, true, false, false, false, false, false, false] rfl rfl (any_of HT_.out (by kernel_rfl)) (fun _ _ _ h => h) (Or.inl ⟨by rfl, ?_⟩) ?_ ?_
 rotate_left
 ·intro w'
  go_simp
  with_reducible rfl
 rotate_left
 ·simp only [Act.put, List.setIfInBounds_toArray, List.set_cons_zero, List.set_cons_succ, i64_w, i32_w]
  rfl
 refine pure_ (i := 13) (N := some 36) (v := ?_) (a' := ?_) #[true, true, true, true, true, true, true, true, true, true, true, true, true, true, false, false, false, false, false] rfl rfl (any_of HT_.out (by kernel_rfl)) (fun _ _ _ h => h) (Or.inl ⟨by rfl, ?_⟩) ?_ ?_
 rotate_left
 ·intro w'
  go_simp
  with_reducible rfl
 rotate_left
 ·simp only [Act.put, List.setIfInBounds_toArray, List.set_cons_zero, List.set_cons_succ, i64_w, i32_w]
  rfl
 refine pure_ (i := 14) (N := some 37) (v := ?_) (a' := ?_) #[true, true, true, true, true, true, true, true, true, true, true, true, true, true, true, false, false, false, false] rfl rfl (any_of HT_.out (by kernel_rfl)) (fun _ _ _ h => h) (Or.inl ⟨by rfl, ?_⟩) ?_ ?_
 rotate_left
 ·intro w'
  go_simp
  with_reducible rfl
 rotate_left
 ·simp only [Act.put, List.setIfInBounds_toArray, List.set_cons_zero, List.set_cons_succ, i64_w, i32_w]
  rfl
 refine one_ (i := 15) (N := some 38) #[true, true, true, true, true, true, true, true, true, true, true, true, true, true, true, true, false, false, false] rfl rfl (one_of HT_.out (by kernel_rfl)) (by decide) (fun K hK => ?_)
 refine goes_ Tryz.func33 (by kernel_rfl) rfl #[.int .i64 a0_2, .int .i64 ji8] (by rfl) rfl rfl (by (try simp only [List.map_toArray, List.map_cons, List.map_nil]); first | done | (simp only [hji8]; rfl) | rfl | (simp only [List.length_drop, List.length_take]; rfl) | (simp (disch := omega) only [wrap64_of]; done) | (simp (disch := omega) only [wrap64_of]; rfl)) ?_
 with_reducible refine (dialtoneref12_pick.calls a0_2 ji8 t250 _ A9.out).mono ?_
 rintro e w' ⟨rfl, ⟨nd, rfl⟩⟩
 refine ⟨_, rfl, ?_⟩
 refine hK.out _ _ ⟨(blk_cell BK249.out 0).trans rfl, (blk_cell BK249.out 1).trans rfl, (blk_cell BK249.out 2).trans rfl, (blk_cell BK241.out 0).trans rfl, (blk_cell BK241.out 1).trans rfl, (blk_cell BK241.out 2).trans rfl⟩ (fun hHeld => ?_)
 clear hK K
 refine norm_ (a' := ?_) ?_ ?_
 rotate_left
 ·show Act.put _ (some 38) _ = _
  simp only [Act.put, List.setIfInBounds_toArray, List.set_cons_zero, List.set_cons_succ, i64_w, i32_w]
  rfl
 refine pure_ (i := 16) (N := some 39) (v := ?_) (a' := ?_) #[true, true, true, true, true, true, true, true, true, true, true, true, true, true, true, true, true, false, false] rfl rfl (any_of HT_.out (by kernel_rfl)) (fun _ _ _ h => h) (Or.inl ⟨by rfl, ?_⟩) ?_ ?_
 rotate_left
 ·intro w'
  go_simp
  with_reducible rfl
 rotate_left
 ·simp only [Act.put, List.setIfInBounds_toArray, List.set_cons_zero, List.set_cons_succ, i64_w, i32_w]
  rfl
 refine pure_ (i := 17) (N := some 40) (v := ?_) (a' := ?_) #[true, true, true, true, true, true, true, true, true, true, true, true, true, true, true, true, true, true, false] rfl rfl (any_of HT_.out (by kernel_rfl)) (fun _ _ _ h => h) (Or.inl ⟨by rfl, ?_⟩) ?_ ?_
 rotate_left
 ·intro w'
  go_simp
  with_reducible rfl
 rotate_left
 ·simp only [Act.put, List.setIfInBounds_toArray, List.set_cons_zero, List.set_cons_succ, i64_w, i32_w]
  rfl
 refine last_ (i := 18) (N := none) #[true, true, true, true, true, true, true, true, true, true, true, true, true, true, true, true, true, true, true] rfl rfl (one_of HT_.out (by kernel_rfl)) (by decide) (fun K hK => ?_)
 have hs22 : w21.cell? ⟨gb249, 2, none⟩ = some (.int .i64 0) := (blk_cell BK249.out 2).trans rfl
 have hfs22 := blk_frozen BK249.out 2
 have hns22_0 := NB241_249.out
 have hns22_1 := NB242_249.out
 have hms22_0 := NB249_241.out
 have hms22_1 := NB249_242.out
 refine skip_ (w1 := ?_) (by rfl) rfl ?_ ?_
 rotate_left
 ·go_simp
  rfl
 refine hK.out _ _ ?_
 clear hK K
 refine done_ (done_of HT_.out (by kernel_rfl)) ?_
 have hnb23 := NB249_241.out
 have hnc23 := NB241_249.out
 have hnb24 := NB249_242.out
 have hnc24 := NB242_249.out
 have hcz25_0 : w21.cell? ⟨gb249, 0, none⟩ = some (.string t245) := (blk_cell BK249.out 0).trans rfl
 have hcz25_1 : w21.cell? ⟨gb249, 1, none⟩ = some (.string t248) := (blk_cell BK249.out 1).trans rfl
 have hcz25_2 : w21.cell? ⟨gb249, 2, none⟩ = some (.int .i64 0) := (blk_cell BK249.out 2).trans rfl
 have hfz25_0 := blk_frozen BK249.out 0
 have hfz25_1 := blk_frozen BK249.out 1
 have hfz25_2 := blk_frozen BK249.out 2
 have hnb26 := NB242_241.out
 have hnc26 := NB241_242.out
 have hcz27_0 : w21.cell? ⟨gb242, 0, none⟩ = some (.string (⟨#[]⟩ : ByteArray)) := (blk_cell BK242.out 0).trans rfl
 have hcz27_1 : w21.cell? ⟨gb242, 1, none⟩ = some (.string (⟨#[]⟩ : ByteArray)) := (blk_cell BK242.out 1).trans rfl
 have hcz27_2 : w21.cell? ⟨gb242, 2, none⟩ = some (.int .i64 0) := (blk_cell BK242.out 2).trans rfl
 have hfz27_0 := blk_frozen BK242.out 0
 have hfz27_1 := blk_frozen BK242.out 1
 have hfz27_2 := blk_frozen BK242.out 2
 try go_wp2
 refine bodyPost_ret (results_cell_row rfl _ _ gb242 29 #[.string t245, .string t248, .int .i64 (wrap64 ((wrap64 ((t245.size : Int) + 1)) + t250))] (0, 0) _ rfl (by (with_reducible repeat (first | refine blk_drewN ?_ _ | refine blk_drew ?_ | refine blk_alloc ?_ _)); refine blk_put (cs := #[.string t245, .string t248, .int .i64 0]) ?_ 2 _ rfl; (with_reducible repeat (first | refine blk_drewN ?_ _ | refine blk_drew ?_ | refine blk_alloc ?_ _)); refine blk_put (cs := #[.string t245, .string (⟨#[]⟩ : ByteArray), .int .i64 0]) ?_ 1 _ rfl; (with_reducible repeat (first | refine blk_drewN ?_ _ | refine blk_drew ?_ | refine blk_alloc ?_ _)); refine blk_put (cs := #[.string (⟨#[]⟩ : ByteArray), .string (⟨#[]⟩ : ByteArray), .int .i64 0]) ?_ 0 _ rfl; (with_reducible repeat (first | refine blk_drewN ?_ _ | refine blk_drew ?_ | refine blk_alloc ?_ _)); refine blk_far ?_ NB242_249.out _; (with_reducible repeat (first | refine blk_drewN ?_ _ | refine blk_drew ?_ | refine blk_alloc ?_ _)); exact BK242.out) Tryz.underlying29 rfl (by kernel_rfl)) rfl ?_
 exact ⟨by first | rfl | (simp [errW_none, errW_some] <;> rfl) | (simp only [← hji8]; first | rfl | (simp [errW_none, errW_some] <;> rfl)) | (simp [*, errW_none, errW_some] <;> rfl), by repeat (first | (with_reducible first | exact HB.out | apply below_alloc | apply pw_below_drewN | apply below_drew1 | refine below_set ?_ GE241.out | refine below_set ?_ GE242.out | refine below_set ?_ GE249.out) | exact HB.out)⟩
end Go.Proofs.YtlmfoblgheepoaaGreatDoor.Pl
end
section
open Go.Proofs.YtlmfoblgheepoaaGreatDoor.Z
namespace Go.Proofs.YtlmfoblgheepoaaGreatDoor.Pl
open Go.RowKit Go.Proofs.YtlmfoblgheepoaaGreatDoorW.PrintWords Go.Proofs.YtlmfoblgheepoaaGreatDoorW.PrintLast Go.Proofs.YtlmfoblgheepoaaGreatDoorW.PrintMore
attribute [local go_sem] max2_int min2_int max_two min_two max_three min_three max_four min_four
set_option linter.unusedVariables false
set_option linter.unusedSimpArgs false
mutual
def dialtoneref12_Made.l0 : Nat → List (S23) → List (S29) → Int → Option ((List (S29)))
 | 0, _, _, _ => none
 | k + 1, x0, x3, x4 => if x4 < (x0.length : Int) then (if x4 < 16 then (dialtoneref12_Made.j1 k x0 x3 x4 (decide ((x3.length : Int) < 8))) else (dialtoneref12_Made.j1 k x0 x3 x4 false)) else (dialtoneref12_Made.j1 k x0 x3 x4 false)
def dialtoneref12_Made.j1 : Nat → List (S23) → List (S29) → Int → Bool → Option ((List (S29)))
 | 0, _, _, _, _ => none
 | k + 1, x0, x3, x4, x18 => if x18 = true then ((some (([] : List (S29)) : List (S29))).bind fun y251 => (if y251.length + x3.length < 3518437208883 then ((some (y251 ++ x3 : List (S29))).bind fun y254 => (if 0 ≤ x4 then (if x4 < (x0.length : Int) then ((dialtoneref12_One.f k ((rd_T23 x0 x4).f0) ((rd_T23 x0 x4).f1) ((rd_T23 x0 x4).f2)).bind fun bt258 => (if y254.length < 3518437208883 then ((some (y254 ++ [(⟨bt258.1, bt258.2.1, bt258.2.2⟩ : S29)] : List (S29))).bind fun y261 => ((dialtoneref12_Valid.f k y261).bind fun t264 => (if t264 = true then (dialtoneref12_Made.l0 k x0 y261 (wrap64 (x4 + 1))) else (dialtoneref12_Made.l0 k x0 x3 (wrap64 (x4 + 1)))))) else (none))) else (none)) else (none))) else (none))) else (some x3)
end
def dialtoneref12_Made.f (k : Nat) (l0 : List (S23)) : Option ((List (S29))) := dialtoneref12_Made.l0 k l0 ([] : List (S29)) 0
def dialtoneref12_Made.T5 : Bool × List (List Nat × List Nat) := (true, [([], []), ([], []), ([0, 1], [0, 1]), ([], []), ([], []), ([3, 4], [3, 4]), ([5], [5]), ([6, 2], [6]), ([7], [7]), ([2, 8, 7], [2, 8]), ([9, 9, 0, 1, 2, 3, 4, 5, 6, 7, 8, 9], [9])])
def dialtoneref12_Made.B5 : List Nat := [0, 0, 3, 0, 0, 24, 56, 127, 255, 511, 1023]
theorem dialtoneref12_Made.tab5 : rtab .any (opsOf Tryz.f12 5) = dialtoneref12_Made.T5 := by kernel_rfl
theorem dialtoneref12_Made.bits5 : waitsOk dialtoneref12_Made.T5.2 dialtoneref12_Made.B5 = true := by kernel_rfl
set_option maxHeartbeats 8000000 in
set_option maxRecDepth 100000 in
theorem dialtoneref12_Made.calls (k : Nat) (A0 : Option Addr) (c0 : Nat) (l0 : List (S23)) (r : List (S29)) (w : World) (hr0 : Kd.C k23 w A0 l0.length l0) (hc0 : l0.length ≤ c0) (h : dialtoneref12_Made.f k l0 = some r) :
 Calls Tryz.prog 12 #[.slice A0 l0.length c0] w fun e w' => ∃ v0_ : Value, e = .returned (v0_) ∧ Kd.R k29 29 w' w.heap.size (fun _ => True) v0_ r ∧ Below w.heap.size w w' := by
 have hu23 := Tryz.underlying23
 have HR0 := Aside0.mk hr0
 have HC0 := Aside0.mk hc0
 clear hr0 hc0
 have HB := Aside0.mk (Below.refl w.heap.size w)
 have H : (dialtoneref12_Made.l0 k l0 ([] : List (S29)) 0) = some r := h
 clear h
 have H' := Aside0.mk H
 clear H
 go_enter Tryz.func12, Tryz.ntmps12
 go_wp2
 go_loopg [3, 4] k (fun kq v3 v4 w' => ∃ (x3_1 : List (S29)) (x4_1 : Int), v4 = .int .i64 x4_1 ∧ Aside0 (dialtoneref12_Made.l0 kq l0 x3_1 x4_1 = some r) ∧ Aside0 (kq ≤ k) ∧ Aside0 (Kd.R k29 29 w' w.heap.size (fun _ => True) v3 x3_1) ∧ Aside0 (Below w.heap.size w w'))
 case atStart => exact ⟨(([] : List (S29))), (0), (zq6), H', ⟨Nat.le_refl _⟩, ⟨by first | exact Kd.R_nil _ _ _ _ _ | exact Kd.N_nil _ _ _ _ _ | exact Kd.V_nil _ _ _ _ _ | exact Kd.Q_nil _ _ _ _ _ | exact Kd.S_nil _ _ _ _ _⟩, ⟨by repeat (first | (with_reducible first | exact HB.out | apply below_alloc | apply pw_below_drewN | apply below_drew1) | exact HB.out)⟩⟩
 case round =>
  clear H'
  try clear c1
  obtain ⟨x3_1, x4_1, rfl, HA, HK1, HO_3, HB⟩ := hrel
  cases gk with
  | zero => exact absurd HA.out (by simp [dialtoneref12_Made.l0])
  | succ k1 =>
   have H := HA.out
   clear HA
   simp only [dialtoneref12_Made.l0] at H
   have HC2 := Aside0.mk H
   clear H
   go_upto_region 3 with (fail)
   go_cut [18] (fun v18 wc => ∃ (kq : Nat) (x18_1 : Bool), v18 = .bool x18_1 ∧ Aside0 (dialtoneref12_Made.j1 kq l0 x3_1 x4_1 x18_1 = some r) ∧ Aside0 (kq ≤ k1) ∧ Aside0 (Kd.R k29 29 wc w.heap.size (fun _ => True) u3 x3_1) ∧ Aside0 (Below w.heap.size w wc))
   case first =>
    have H := HC2.out
    clear HC2
    by_cases c3 : x4_1 < (l0.length : Int)
    ·rw [if_pos c3] at H
     have c3b0 : decide (x4_1 < (l0.length : Int)) = true := decide_eq_true c3
     clear c3
     (first | rw [c3b0] | (simp only [i64_w, i32_w]; rw [c3b0]) | skip)
     by_cases c4 : x4_1 < 16
     ·rw [if_pos c4] at H
      have c4b0 : decide (x4_1 < 16) = true := decide_eq_true c4
      clear c4
      have H' := Aside0.mk H
      clear H
      obtain ⟨Ao5, co5, eo5⟩ := Kd.R_slice HO_3.out
      subst eo5
      go_wp2
      go_meet
      case rel => exact ⟨_, (decide ((x3_1.length : Int) < 8)), (zq6), H', ⟨by have := HK1.out; first | omega | exact Nat.le_refl _⟩, ⟨by (with_reducible repeat (first | apply Kd.R_alloc | apply Kd.R_drewN | apply Kd.R_drew)); exact HO_3.out⟩, ⟨by repeat (first | (with_reducible first | exact HB.out | apply below_alloc | apply pw_below_drewN | apply below_drew1) | exact HB.out)⟩⟩
     ·rw [if_neg c4] at H
      have c4b0 : decide (x4_1 < 16) = false := decide_eq_false c4
      clear c4
      have H' := Aside0.mk H
      clear H
      go_wp2
      go_meet
      case rel => exact ⟨_, (false), (zq6), H', ⟨by have := HK1.out; first | omega | exact Nat.le_refl _⟩, ⟨by (with_reducible repeat (first | apply Kd.R_alloc | apply Kd.R_drewN | apply Kd.R_drew)); exact HO_3.out⟩, ⟨by repeat (first | (with_reducible first | exact HB.out | apply below_alloc | apply pw_below_drewN | apply below_drew1) | exact HB.out)⟩⟩
    ·rw [if_neg c3] at H
     have c3b0 : decide (x4_1 < (l0.length : Int)) = false := decide_eq_false c3
     clear c3
     (first | rw [c3b0] | (simp only [i64_w, i32_w]; rw [c3b0]) | skip)
     have H' := Aside0.mk H
     clear H
     go_wp2
     go_meet
     case rel => exact ⟨_, (false), (zq6), H', ⟨by have := HK1.out; first | omega | exact Nat.le_refl _⟩, ⟨by (with_reducible repeat (first | apply Kd.R_alloc | apply Kd.R_drewN | apply Kd.R_drew)); exact HO_3.out⟩, ⟨by repeat (first | (with_reducible first | exact HB.out | apply below_alloc | apply pw_below_drewN | apply below_drew1) | exact HB.out)⟩⟩
   case rest =>
    clear HC2
    try clear c1
    try clear p2
    try clear c3
    try clear c3b0
    try clear c4
    try clear c4b0
    obtain ⟨kq, x18_1, rfl, HA, HJ1, HO_3, HB⟩ := hcut
    cases kq with
    | zero => exact absurd HA.out (by simp [dialtoneref12_Made.j1])
    | succ kj1 =>
     have H := HA.out
     clear HA
     simp only [dialtoneref12_Made.j1] at H
     by_cases c6 : x18_1 = true
     ·subst c6
      rw [if_pos rfl] at H
      obtain ⟨y251, hy251⟩ : ∃ y_ : List (S29), y_ = (([] : List (S29))) := ⟨_, rfl⟩
      replace H : (if y251.length + x3_1.length < 3518437208883 then ((some (y251 ++ x3_1 : List (S29))).bind fun y254 => (if 0 ≤ x4_1 then (if x4_1 < (l0.length : Int) then ((dialtoneref12_One.f kj1 ((rd_T23 l0 x4_1).f0) ((rd_T23 l0 x4_1).f1) ((rd_T23 l0 x4_1).f2)).bind fun bt258 => (if y254.length < 3518437208883 then ((some (y254 ++ [(⟨bt258.1, bt258.2.1, bt258.2.2⟩ : S29)] : List (S29))).bind fun y261 => ((dialtoneref12_Valid.f kj1 y261).bind fun t264 => (if t264 = true then (dialtoneref12_Made.l0 kj1 l0 y261 (wrap64 (x4_1 + 1))) else (dialtoneref12_Made.l0 kj1 l0 x3_1 (wrap64 (x4_1 + 1)))))) else (none))) else (none)) else (none))) else (none)) = some r := by first | (rw [hy251]; with_reducible exact H) | (have H2_ := (Option.bind_some _ _).symm.trans H; rw [hy251]; with_reducible exact H2_) | (have H2_ := (Option.bind_some _ _).symm.trans H; with_reducible exact H2_) | with_reducible exact H | (rw [hy251]; exact H) | exact H
      have Ny251 := Aside0.mk hy251
      clear hy251
      by_cases c7 : y251.length + x3_1.length < 3518437208883
      ·rw [if_pos c7] at H
       have LMc7 := Aside0.mk c7
       clear c7
       obtain ⟨y254, hy254⟩ : ∃ y_ : List (S29), y_ = (y251 ++ x3_1) := ⟨_, rfl⟩
       replace H : (if 0 ≤ x4_1 then (if x4_1 < (l0.length : Int) then ((dialtoneref12_One.f kj1 ((rd_T23 l0 x4_1).f0) ((rd_T23 l0 x4_1).f1) ((rd_T23 l0 x4_1).f2)).bind fun bt258 => (if y254.length < 3518437208883 then ((some (y254 ++ [(⟨bt258.1, bt258.2.1, bt258.2.2⟩ : S29)] : List (S29))).bind fun y261 => ((dialtoneref12_Valid.f kj1 y261).bind fun t264 => (if t264 = true then (dialtoneref12_Made.l0 kj1 l0 y261 (wrap64 (x4_1 + 1))) else (dialtoneref12_Made.l0 kj1 l0 x3_1 (wrap64 (x4_1 + 1)))))) else (none))) else (none)) else (none)) = some r := by first | (rw [hy254]; with_reducible exact H) | (have H2_ := (Option.bind_some _ _).symm.trans H; rw [hy254]; with_reducible exact H2_) | (have H2_ := (Option.bind_some _ _).symm.trans H; with_reducible exact H2_) | with_reducible exact H | (rw [hy254]; exact H) | exact H
       have Ny254 := Aside0.mk hy254
       clear hy254
       by_cases c8 : 0 ≤ x4_1
       ·rw [if_pos c8] at H
        have c8b0 : decide (0 ≤ x4_1) = true := decide_eq_true c8
        clear c8
        by_cases c9 : x4_1 < (l0.length : Int)
        ·rw [if_pos c9] at H
         have c9b0 : decide (x4_1 < (l0.length : Int)) = true := decide_eq_true c9
         clear c9
         replace H := Option.bind_eq_some_iff.mp H
         obtain ⟨⟨t258, t259, t260⟩, A100, H⟩ := H
         try dsimp only at H
         have A10 := Aside0.mk A100
         clear A100
         by_cases c11 : y254.length < 3518437208883
         ·rw [if_pos c11] at H
          have LMc11 := Aside0.mk c11
          clear c11
          obtain ⟨y261, hy261⟩ : ∃ y_ : List (S29), y_ = (y254 ++ [(⟨t258, t259, t260⟩ : S29)]) := ⟨_, rfl⟩
          replace H : ((dialtoneref12_Valid.f kj1 y261).bind fun t264 => (if t264 = true then (dialtoneref12_Made.l0 kj1 l0 y261 (wrap64 (x4_1 + 1))) else (dialtoneref12_Made.l0 kj1 l0 x3_1 (wrap64 (x4_1 + 1))))) = some r := by first | (rw [hy261]; with_reducible exact H) | (have H2_ := (Option.bind_some _ _).symm.trans H; rw [hy261]; with_reducible exact H2_) | (have H2_ := (Option.bind_some _ _).symm.trans H; with_reducible exact H2_) | with_reducible exact H | (rw [hy261]; exact H) | exact H
          have Ny261 := Aside0.mk hy261
          clear hy261
          replace H := Option.bind_eq_some_iff.mp H
          obtain ⟨t264, A120, H⟩ := H
          try dsimp only at H
          have A12 := Aside0.mk A120
          clear A120
          by_cases c13 : t264 = true
          ·subst c13
           rw [if_pos rfl] at H
           have H' := Aside0.mk H
           clear H
           try go_wp2
           have n0_ := Aside0.mk (Kd.R_drew HO_3.out)
           have n1_ := Aside0.mk (below_drew1 HB.out)
           clear HO_3
           clear HB
           have HO_3 := n0_
           have HB := n1_
           clear n0_ n1_
           have p257 : 0 ≤ (x4_1 : Int) := of_decide_eq_true (zq14)
           have q257 : x4_1 < (l0.length : Int) := of_decide_eq_true (zq14)
           obtain ⟨ad257, e257, hx257_0, hx257_1, hx257_2⟩ := at_T23 HR0.out x4_1 p257 q257
           have hw257_2 := hx257_2
           have hw257_1 := hx257_1
           have hw257_0 := hx257_0
           cases e257
           replace hx257_0 := (HB.out.cell (World.block_lt_of_cell? w _ hx257_0)).trans hx257_0
           replace hx257_1 := (HB.out.cell (World.block_lt_of_cell? w _ hx257_1)).trans hx257_1
           replace hx257_2 := (HB.out.cell (World.block_lt_of_cell? w _ hx257_2)).trans hx257_2
           replace p257 := eq_true p257
           replace q257 := eq_true q257
           refine start_ (n := 11) (S := fun w' => w'.cell? (ad257.add ((x4_1).toNat * 3)) = some (.int .i64 ((rd_T23 l0 x4_1).f0)) ∧ w'.cell? ⟨(ad257.add ((x4_1).toNat * 3)).block, (ad257.add ((x4_1).toNat * 3)).off + 1, none⟩ = some (.int .i64 ((rd_T23 l0 x4_1).f1)) ∧ w'.cell? ⟨(ad257.add ((x4_1).toNat * 3)).block, (ad257.add ((x4_1).toNat * 3)).off + 2, none⟩ = some (.int .i64 ((rd_T23 l0 x4_1).f2))) (ds := []) #[false, false, false, false, false, false, false, false, false, false, false] (by kernel_rfl) rfl rfl ⟨((HB.out.cell (World.block_lt_of_cell? w _ hw257_0)).trans hw257_0), ((HB.out.cell (World.block_lt_of_cell? w _ hw257_1)).trans hw257_1), ((HB.out.cell (World.block_lt_of_cell? w _ hw257_2)).trans hw257_2)⟩ (fun hHeld => ?_); refine with_tabW dialtoneref12_Made.tab5 dialtoneref12_Made.bits5 (fun HT_ HW_ => ?_)
           generalize wc.drew = w14 at HO_3 HB hx257_0 hx257_1 hx257_2 hHeld ⊢
           refine pure_ (i := 1) (N := some 22) (v := ?_) (a' := ?_) #[false, true, false, false, false, false, false, false, false, false, false] rfl rfl (any_of HT_.out (by kernel_rfl)) (fun _ _ _ h => h) (Or.inl ⟨by rfl, ?_⟩) ?_ ?_
           rotate_left
           ·intro w'
            go_simp
            with_reducible rfl
           rotate_left
           ·simp only [Act.put, List.setIfInBounds_toArray, List.set_cons_zero, List.set_cons_succ, i64_w, i32_w]
            rfl
           refine pure_ (i := 3) (N := some 24) (v := ?_) (a' := ?_) #[false, true, false, true, false, false, false, false, false, false, false] rfl rfl (any_of HT_.out (by kernel_rfl)) (fun _ _ _ h => h) (Or.inl ⟨by rfl, ?_⟩) ?_ ?_
           rotate_left
           ·intro w'
            go_simp
            with_reducible rfl
           rotate_left
           ·simp only [Act.put, List.setIfInBounds_toArray, List.set_cons_zero, List.set_cons_succ, i64_w, i32_w]
            rfl
           refine pure_ (i := 4) (N := some 25) (v := ?_) (a' := ?_) #[false, true, false, true, true, false, false, false, false, false, false] rfl rfl (any_of HT_.out (by kernel_rfl)) (fun _ _ _ h => h) (Or.inl ⟨by rfl, ?_⟩) ?_ ?_
           rotate_left
           ·intro w'
            go_simp
            with_reducible rfl
           rotate_left
           ·simp only [Act.put, List.setIfInBounds_toArray, List.set_cons_zero, List.set_cons_succ, i64_w, i32_w]
            rfl
           refine pure_ (i := 5) (N := some 26) (v := ?_) (a' := ?_) #[false, true, false, true, true, true, false, false, false, false, false] rfl rfl (any_of HT_.out (by kernel_rfl)) (fun _ _ _ h => h) (Or.inl ⟨by rfl, ?_⟩) ?_ ?_
           rotate_left
           ·intro w'
            go_simp
            with_reducible rfl
           rotate_left
           ·simp only [Act.put, List.setIfInBounds_toArray, List.set_cons_zero, List.set_cons_succ, i64_w, i32_w]
            rfl
           refine take_ (i := 6) (N := some 27) (v := ?_) (a' := ?_) #[false, true, false, true, true, true, true, false, false, false, false] rfl rfl (take_ofW HT_.out HW_.out (by kernel_rfl)) (fun _ _ _ h => h) (Or.inl ⟨by rfl, ?_⟩) hHeld ?_ ?_
           rotate_left
           ·rintro w' ⟨s0, s1, s2⟩
            go_simp
            with_reducible rfl
           rotate_left
           ·simp only [Act.put, List.setIfInBounds_toArray, List.set_cons_zero, List.set_cons_succ, i64_w, i32_w]
            rfl
           refine one_ (i := 0) (N := some 21) #[true, true, false, true, true, true, true, false, false, false, false] rfl rfl (one_of HT_.out (by kernel_rfl)) (by decide) (fun K hK => ?_)
           refine Kd.R_lit_step k29 _ 29 ?hg (N := 21) ?hd (xs := ([] : List (S29))) (inner := []) (ok := fun _ => True) (okp := fun _ => True) ?hr ?hp (fun _ hk => hk) trivial (Below.refl _ _) (Nat.le_refl _) (by simp) ?_; (case hd => rfl); (case hg => rfl); (case hr => exact zq0); (case hp => exact (Reps.none _ _))
           intro v252 w15 ho16 hb hg_ hnew_
           clear hg_ hnew_
           (first | rw [← Ny251.out] at ho16 | (simp only [Int.reduceToNat] at ho16; rw [← Ny251.out] at ho16))
           have n0_ := Aside0.mk (Kd.R_elder' (zq84) (Kd.R_base ho16) hb)
           have n1_ := Aside0.mk (Kd.R_lower (Kd.R_new' ho16 (Kd.R_lt (zq84))) (below_size (zq1)))
           have n2_ := Aside0.mk (below_step (zq1) hb)
           clear HO_3
           clear HB
           have HO_3 := n0_
           have HO253 := n1_
           have HB := n2_
           clear n0_ n1_ n2_
           clear hb ho16
           obtain ⟨Ao18, co18, eo18⟩ := Kd.R_slice HO_3.out
           (first | subst eo18 | (injection eo18 with f1_ f2_ f3_; have f4_ := f1_.symm; have f5_ := f3_.symm; clear f1_ f2_ f3_; subst f4_; subst f5_))
           refine hK.out _ _ ⟨((HB.out.cell (World.block_lt_of_cell? w _ hw257_0)).trans hw257_0), ((HB.out.cell (World.block_lt_of_cell? w _ hw257_1)).trans hw257_1), ((HB.out.cell (World.block_lt_of_cell? w _ hw257_2)).trans hw257_2)⟩ (fun hHeld => ?_)
           clear hK K
           refine norm_ (a' := ?_) ?_ ?_
           rotate_left
           ·show Act.put _ (some 21) _ = _
            simp only [Act.put, List.setIfInBounds_toArray, List.set_cons_zero, List.set_cons_succ, i64_w, i32_w]
            rfl
           refine one_ (i := 2) (N := some 23) #[true, true, true, true, true, true, true, false, false, false, false] rfl rfl (one_of HT_.out (by kernel_rfl)) (by decide) (fun K hK => ?_)
           refine Kd.R_append_rows_step k29 (w0 := w) w.heap.size (by rfl) (.tmp 21) (.tmp 22) 24 29 (.agg #[(.string ⟨#[]⟩), (.string ⟨#[]⟩), (.int .i64 0)]) 40 rfl Tryz.underlying24 info29 rfl (by decide) (by omega) v252 y251 x3_1 _ _ _ (fun k_ => some k_ ≠ (.slice Ao18 x3_1.length co18 : Value).ownBlock) (fun _ => False) rfl rfl ?aO ?aR (fun _ _ h => h) (fun _ h => h.elim) ?aF ?aB ?aS ?aL ?_
           (case aR => exact zq85)
           (case aB => exact zq86)
           (case aF => exact zq87)
           (case aO => exact zq88)
           (case aS => exact zq90)
           (case aL => have := LMc7.out; omega)
           intro v255 w17 ho hb hg hat
           rw [← Ny254.out] at ho
           have n0_ := Aside0.mk (Kd.R_after (ok := (fun _ => True)) (zq84) hg hat)
           have n1_ := Aside0.mk (hb)
           have n2_ := Aside0.mk (ho)
           clear HO_3
           clear HB
           clear HO253
           have HO_3 := n0_
           have HB := n1_
           have HO256 := n2_
           clear n0_ n1_ n2_
           clear ho hb hg hat
           refine hK.out _ _ ⟨((HB.out.cell (World.block_lt_of_cell? w _ hw257_0)).trans hw257_0), ((HB.out.cell (World.block_lt_of_cell? w _ hw257_1)).trans hw257_1), ((HB.out.cell (World.block_lt_of_cell? w _ hw257_2)).trans hw257_2)⟩ (fun hHeld => ?_)
           clear hK K
           refine norm_ (a' := ?_) ?_ ?_
           rotate_left
           ·show Act.put _ (some 23) _ = _
            simp only [Act.put, List.setIfInBounds_toArray, List.set_cons_zero, List.set_cons_succ, i64_w, i32_w]
            rfl
           refine one_ (i := 7) (N := some 28) #[true, true, true, true, true, true, true, true, false, false, false] rfl rfl (one_of HT_.out (by kernel_rfl)) (by decide) (fun K hK => ?_)
           refine goes_ Tryz.func29 (by kernel_rfl) rfl #[.agg #[.int .i64 ((rd_T23 l0 x4_1).f0), .int .i64 ((rd_T23 l0 x4_1).f1), .int .i64 ((rd_T23 l0 x4_1).f2)]] (by rfl) rfl rfl (zq3) ?_
           with_reducible refine (dialtoneref12_One.calls kj1 ((rd_T23 l0 x4_1).f0) ((rd_T23 l0 x4_1).f1) ((rd_T23 l0 x4_1).f2) t258 t259 t260 _ A10.out).mono ?_
           rintro e w19 ⟨rfl, hb⟩
           refine ⟨_, rfl, ?_⟩
           have n0_ := Aside0.mk (Kd.R_below (zq84) hb)
           have n1_ := Aside0.mk (Kd.R_below (zq91) hb)
           have n2_ := Aside0.mk (below_step (zq1) hb)
           clear HO_3
           clear HO256
           clear HB
           have HO_3 := n0_
           have HO256 := n1_
           have HB := n2_
           clear n0_ n1_ n2_
           (try clear hb)
           (try clear hb2)
           (try clear hk)
           (try clear hi)
           refine hK.out _ _ ⟨((HB.out.cell (World.block_lt_of_cell? w _ hw257_0)).trans hw257_0), ((HB.out.cell (World.block_lt_of_cell? w _ hw257_1)).trans hw257_1), ((HB.out.cell (World.block_lt_of_cell? w _ hw257_2)).trans hw257_2)⟩ (fun hHeld => ?_)
           clear hK K
           refine norm_ (a' := ?_) ?_ ?_
           rotate_left
           ·show Act.put _ (some 28) _ = _
            simp only [Act.put, List.setIfInBounds_toArray, List.set_cons_zero, List.set_cons_succ, i64_w, i32_w]
            rfl
           refine one_ (i := 8) (N := some 29) #[true, true, true, true, true, true, true, true, true, false, false] rfl rfl (one_of HT_.out (by kernel_rfl)) (by decide) (fun K hK => ?_)
           refine value_ (w1 := ?_) (v := ?_) (by rfl) rfl ?_ ?_
           rotate_left 2
           ·go_simp
            constructor
            ·rfl
            ·rfl
           refine hK.out _ _ ⟨(World.cell?_alloc_lt _ _ _ (World.block_lt_of_cell? _ _ (((HB.out.cell (World.block_lt_of_cell? w _ hw257_0)).trans hw257_0)))).trans (((HB.out.cell (World.block_lt_of_cell? w _ hw257_0)).trans hw257_0)), (World.cell?_alloc_lt _ _ _ (World.block_lt_of_cell? _ _ (((HB.out.cell (World.block_lt_of_cell? w _ hw257_1)).trans hw257_1)))).trans (((HB.out.cell (World.block_lt_of_cell? w _ hw257_1)).trans hw257_1)), (World.cell?_alloc_lt _ _ _ (World.block_lt_of_cell? _ _ (((HB.out.cell (World.block_lt_of_cell? w _ hw257_2)).trans hw257_2)))).trans (((HB.out.cell (World.block_lt_of_cell? w _ hw257_2)).trans hw257_2))⟩ (fun hHeld => ?_)
           clear hK K
           refine norm_ (a' := ?_) ?_ ?_
           rotate_left
           ·show Act.put _ (some 29) _ = _
            simp only [Act.put, List.setIfInBounds_toArray, List.set_cons_zero, List.set_cons_succ, i64_w, i32_w]
            rfl
           refine one_ (i := 9) (N := some 30) #[true, true, true, true, true, true, true, true, true, true, false] rfl rfl (one_of HT_.out (by kernel_rfl)) (by decide) (fun K hK => ?_)
           refine Kd.R_append_step k29 (w0 := w) w.heap.size (by rfl) (.tmp 23) (.tmp 29) 24 29 (.agg #[(.string ⟨#[]⟩), (.string ⟨#[]⟩), (.int .i64 0)]) 40 rfl Tryz.underlying24 info29 rfl (by decide) (by omega) v255 y254 (⟨t258, t259, t260⟩ : S29) [.string t258, .string t259, .int .i64 t260] (fun k_ => some k_ ≠ (.slice Ao18 x3_1.length co18 : Value).ownBlock) (fun _ => False) rfl rfl ?aP (fun _ hk => hk.elim) ?aF ?aO ?aB ?aS ?aL ?_
           (case aP => exact k29_mkM _ _ _ (⟨t258, t259, t260⟩ : S29))
           (case aB => exact zq86)
           (case aF => exact zq87)
           (case aO => exact zq92)
           (case aS => exact zq90)
           (case aL => have := LMc11.out; omega)
           intro v262 w20 ho hb hg hat
           rw [← Ny261.out] at ho
           have n0_ := Aside0.mk (Kd.R_after (ok := (fun _ => True)) (zq84) hg hat)
           have n1_ := Aside0.mk (hb)
           have n2_ := Aside0.mk (ho)
           clear HO_3
           clear HB
           clear HO256
           have HO_3 := n0_
           have HB := n1_
           have HO263 := n2_
           clear n0_ n1_ n2_
           clear ho hb hg hat
           refine hK.out _ _ ⟨((HB.out.cell (World.block_lt_of_cell? w _ hw257_0)).trans hw257_0), ((HB.out.cell (World.block_lt_of_cell? w _ hw257_1)).trans hw257_1), ((HB.out.cell (World.block_lt_of_cell? w _ hw257_2)).trans hw257_2)⟩ (fun hHeld => ?_)
           clear hK K
           refine norm_ (a' := ?_) ?_ ?_
           rotate_left
           ·show Act.put _ (some 30) _ = _
            simp only [Act.put, List.setIfInBounds_toArray, List.set_cons_zero, List.set_cons_succ, i64_w, i32_w]
            rfl
           refine pure_ (i := 10) (N := some 5) (v := ?_) (a' := ?_) #[true, true, true, true, true, true, true, true, true, true, true] rfl rfl (any_of HT_.out (by kernel_rfl)) (fun _ _ _ h => h) (Or.inl ⟨by rfl, ?_⟩) ?_ ?_
           rotate_left
           ·intro w'
            go_simp
            with_reducible rfl
           rotate_left
           ·simp only [Act.put, List.setIfInBounds_toArray, List.set_cons_zero, List.set_cons_succ, i64_w, i32_w]
            rfl
           refine done_ (done_of HT_.out (by kernel_rfl)) ?_
           obtain ⟨Ao21, co21, eo21⟩ := Kd.R_slice HO263.out
           subst eo21
           try go_wp2_with (first | ((with_reducible refine gate_callee (f := 26) rfl ?_); refine goesL_ (some 32) rfl rfl Tryz.func26 (by kernel_rfl) rfl #[.slice Ao21 y261.length co21] rfl (zq3) ?_; (with_reducible refine (dialtoneref12_Valid.calls kj1 _ _ y261 true _ ?side1 ?side2 A12.out).mono ?_); (case side1 => exact zq93); (case side2 => exact (Kd.R_reads' HO263.out).2.1); rintro e w22 ⟨rfl, hb⟩; refine ⟨_, rfl, ?_⟩; have n0_ := Aside0.mk (Kd.R_below (zq84) hb); have n1_ := Aside0.mk (Kd.R_below (zq94) hb); have n2_ := Aside0.mk (below_step (zq1) hb); clear HO_3; clear HO263; clear HB; have HO_3 := n0_; have HO263 := n1_; have HB := n2_; clear n0_ n1_ n2_; (try clear hb); (try clear hb2); (try clear hk); (try clear hi)))
           go_roundg kj1
           case measure => have := HK1.out; have := HJ1.out; omega
           case rel => exact ⟨(y261), (wrap64 (x4_1 + 1)), (zq6), H', ⟨by have := HK1.out; have := HJ1.out; omega⟩, ⟨by (with_reducible repeat (first | apply Kd.R_alloc | apply Kd.R_drewN | apply Kd.R_drew)); exact Kd.R_mono HO263.out (fun _ hk => trivial)⟩, ⟨by repeat (first | (with_reducible first | exact HB.out | apply below_alloc | apply pw_below_drewN | apply below_drew1) | exact HB.out)⟩⟩
          ·replace c13 := Bool.eq_false_iff.mpr c13
           subst c13
           rw [if_neg (show ¬ (false = true) by decide)] at H
           have H' := Aside0.mk H
           clear H
           try go_wp2
           have n0_ := Aside0.mk (Kd.R_drew HO_3.out)
           have n1_ := Aside0.mk (below_drew1 HB.out)
           clear HO_3
           clear HB
           have HO_3 := n0_
           have HB := n1_
           clear n0_ n1_
           have p257 : 0 ≤ (x4_1 : Int) := of_decide_eq_true (zq14)
           have q257 : x4_1 < (l0.length : Int) := of_decide_eq_true (zq14)
           obtain ⟨ad257, e257, hx257_0, hx257_1, hx257_2⟩ := at_T23 HR0.out x4_1 p257 q257
           have hw257_2 := hx257_2
           have hw257_1 := hx257_1
           have hw257_0 := hx257_0
           cases e257
           replace hx257_0 := (HB.out.cell (World.block_lt_of_cell? w _ hx257_0)).trans hx257_0
           replace hx257_1 := (HB.out.cell (World.block_lt_of_cell? w _ hx257_1)).trans hx257_1
           replace hx257_2 := (HB.out.cell (World.block_lt_of_cell? w _ hx257_2)).trans hx257_2
           replace p257 := eq_true p257
           replace q257 := eq_true q257
           refine start_ (n := 11) (S := fun w' => w'.cell? (ad257.add ((x4_1).toNat * 3)) = some (.int .i64 ((rd_T23 l0 x4_1).f0)) ∧ w'.cell? ⟨(ad257.add ((x4_1).toNat * 3)).block, (ad257.add ((x4_1).toNat * 3)).off + 1, none⟩ = some (.int .i64 ((rd_T23 l0 x4_1).f1)) ∧ w'.cell? ⟨(ad257.add ((x4_1).toNat * 3)).block, (ad257.add ((x4_1).toNat * 3)).off + 2, none⟩ = some (.int .i64 ((rd_T23 l0 x4_1).f2))) (ds := []) #[false, false, false, false, false, false, false, false, false, false, false] (by kernel_rfl) rfl rfl ⟨((HB.out.cell (World.block_lt_of_cell? w _ hw257_0)).trans hw257_0), ((HB.out.cell (World.block_lt_of_cell? w _ hw257_1)).trans hw257_1), ((HB.out.cell (World.block_lt_of_cell? w _ hw257_2)).trans hw257_2)⟩ (fun hHeld => ?_); refine with_tabW dialtoneref12_Made.tab5 dialtoneref12_Made.bits5 (fun HT_ HW_ => ?_)
           generalize wc.drew = w23 at HO_3 HB hx257_0 hx257_1 hx257_2 hHeld ⊢
           refine pure_ (i := 1) (N := some 22) (v := ?_) (a' := ?_) #[false, true, false, false, false, false, false, false, false, false, false] rfl rfl (any_of HT_.out (by kernel_rfl)) (fun _ _ _ h => h) (Or.inl ⟨by rfl, ?_⟩) ?_ ?_
           rotate_left
           ·intro w'
            go_simp
            with_reducible rfl
           rotate_left
           ·simp only [Act.put, List.setIfInBounds_toArray, List.set_cons_zero, List.set_cons_succ, i64_w, i32_w]
            rfl
           refine pure_ (i := 3) (N := some 24) (v := ?_) (a' := ?_) #[false, true, false, true, false, false, false, false, false, false, false] rfl rfl (any_of HT_.out (by kernel_rfl)) (fun _ _ _ h => h) (Or.inl ⟨by rfl, ?_⟩) ?_ ?_
           rotate_left
           ·intro w'
            go_simp
            with_reducible rfl
           rotate_left
           ·simp only [Act.put, List.setIfInBounds_toArray, List.set_cons_zero, List.set_cons_succ, i64_w, i32_w]
            rfl
           refine pure_ (i := 4) (N := some 25) (v := ?_) (a' := ?_) #[false, true, false, true, true, false, false, false, false, false, false] rfl rfl (any_of HT_.out (by kernel_rfl)) (fun _ _ _ h => h) (Or.inl ⟨by rfl, ?_⟩) ?_ ?_
           rotate_left
           ·intro w'
            go_simp
            with_reducible rfl
           rotate_left
           ·simp only [Act.put, List.setIfInBounds_toArray, List.set_cons_zero, List.set_cons_succ, i64_w, i32_w]
            rfl
           refine pure_ (i := 5) (N := some 26) (v := ?_) (a' := ?_) #[false, true, false, true, true, true, false, false, false, false, false] rfl rfl (any_of HT_.out (by kernel_rfl)) (fun _ _ _ h => h) (Or.inl ⟨by rfl, ?_⟩) ?_ ?_
           rotate_left
           ·intro w'
            go_simp
            with_reducible rfl
           rotate_left
           ·simp only [Act.put, List.setIfInBounds_toArray, List.set_cons_zero, List.set_cons_succ, i64_w, i32_w]
            rfl
           refine take_ (i := 6) (N := some 27) (v := ?_) (a' := ?_) #[false, true, false, true, true, true, true, false, false, false, false] rfl rfl (take_ofW HT_.out HW_.out (by kernel_rfl)) (fun _ _ _ h => h) (Or.inl ⟨by rfl, ?_⟩) hHeld ?_ ?_
           rotate_left
           ·rintro w' ⟨s0, s1, s2⟩
            go_simp
            with_reducible rfl
           rotate_left
           ·simp only [Act.put, List.setIfInBounds_toArray, List.set_cons_zero, List.set_cons_succ, i64_w, i32_w]
            rfl
           refine one_ (i := 0) (N := some 21) #[true, true, false, true, true, true, true, false, false, false, false] rfl rfl (one_of HT_.out (by kernel_rfl)) (by decide) (fun K hK => ?_)
           refine Kd.R_lit_step k29 _ 29 ?hg (N := 21) ?hd (xs := ([] : List (S29))) (inner := []) (ok := fun _ => True) (okp := fun _ => True) ?hr ?hp (fun _ hk => hk) trivial (Below.refl _ _) (Nat.le_refl _) (by simp) ?_; (case hd => rfl); (case hg => rfl); (case hr => exact zq0); (case hp => exact (Reps.none _ _))
           intro v252 w24 ho25 hb hg_ hnew_
           clear hg_ hnew_
           (first | rw [← Ny251.out] at ho25 | (simp only [Int.reduceToNat] at ho25; rw [← Ny251.out] at ho25))
           have n0_ := Aside0.mk (Kd.R_elder' (zq84) (Kd.R_base ho25) hb)
           have n1_ := Aside0.mk (Kd.R_lower (Kd.R_new' ho25 (Kd.R_lt (zq84))) (below_size (zq1)))
           have n2_ := Aside0.mk (below_step (zq1) hb)
           clear HO_3
           clear HB
           have HO_3 := n0_
           have HO253 := n1_
           have HB := n2_
           clear n0_ n1_ n2_
           clear hb ho25
           obtain ⟨Ao27, co27, eo27⟩ := Kd.R_slice HO_3.out
           (first | subst eo27 | (injection eo27 with f1_ f2_ f3_; have f4_ := f1_.symm; have f5_ := f3_.symm; clear f1_ f2_ f3_; subst f4_; subst f5_))
           refine hK.out _ _ ⟨((HB.out.cell (World.block_lt_of_cell? w _ hw257_0)).trans hw257_0), ((HB.out.cell (World.block_lt_of_cell? w _ hw257_1)).trans hw257_1), ((HB.out.cell (World.block_lt_of_cell? w _ hw257_2)).trans hw257_2)⟩ (fun hHeld => ?_)
           clear hK K
           refine norm_ (a' := ?_) ?_ ?_
           rotate_left
           ·show Act.put _ (some 21) _ = _
            simp only [Act.put, List.setIfInBounds_toArray, List.set_cons_zero, List.set_cons_succ, i64_w, i32_w]
            rfl
           refine one_ (i := 2) (N := some 23) #[true, true, true, true, true, true, true, false, false, false, false] rfl rfl (one_of HT_.out (by kernel_rfl)) (by decide) (fun K hK => ?_)
           refine Kd.R_append_rows_step k29 (w0 := w) w.heap.size (by rfl) (.tmp 21) (.tmp 22) 24 29 (.agg #[(.string ⟨#[]⟩), (.string ⟨#[]⟩), (.int .i64 0)]) 40 rfl Tryz.underlying24 info29 rfl (by decide) (by omega) v252 y251 x3_1 _ _ _ (fun k_ => some k_ ≠ (.slice Ao27 x3_1.length co27 : Value).ownBlock) (fun _ => False) rfl rfl ?aO ?aR (fun _ _ h => h) (fun _ h => h.elim) ?aF ?aB ?aS ?aL ?_
           (case aR => exact zq85)
           (case aB => exact zq86)
           (case aF => exact zq87)
           (case aO => exact zq88)
           (case aS => exact zq90)
           (case aL => have := LMc7.out; omega)
           intro v255 w26 ho hb hg hat
           rw [← Ny254.out] at ho
           have n0_ := Aside0.mk (Kd.R_after (ok := (fun _ => True)) (zq84) hg hat)
           have n1_ := Aside0.mk (hb)
           have n2_ := Aside0.mk (ho)
           clear HO_3
           clear HB
           clear HO253
           have HO_3 := n0_
           have HB := n1_
           have HO256 := n2_
           clear n0_ n1_ n2_
           clear ho hb hg hat
           refine hK.out _ _ ⟨((HB.out.cell (World.block_lt_of_cell? w _ hw257_0)).trans hw257_0), ((HB.out.cell (World.block_lt_of_cell? w _ hw257_1)).trans hw257_1), ((HB.out.cell (World.block_lt_of_cell? w _ hw257_2)).trans hw257_2)⟩ (fun hHeld => ?_)
           clear hK K
           refine norm_ (a' := ?_) ?_ ?_
           rotate_left
           ·show Act.put _ (some 23) _ = _
            simp only [Act.put, List.setIfInBounds_toArray, List.set_cons_zero, List.set_cons_succ, i64_w, i32_w]
            rfl
           refine one_ (i := 7) (N := some 28) #[true, true, true, true, true, true, true, true, false, false, false] rfl rfl (one_of HT_.out (by kernel_rfl)) (by decide) (fun K hK => ?_)
           refine goes_ Tryz.func29 (by kernel_rfl) rfl #[.agg #[.int .i64 ((rd_T23 l0 x4_1).f0), .int .i64 ((rd_T23 l0 x4_1).f1), .int .i64 ((rd_T23 l0 x4_1).f2)]] (by rfl) rfl rfl (zq3) ?_
           with_reducible refine (dialtoneref12_One.calls kj1 ((rd_T23 l0 x4_1).f0) ((rd_T23 l0 x4_1).f1) ((rd_T23 l0 x4_1).f2) t258 t259 t260 _ A10.out).mono ?_
           rintro e w28 ⟨rfl, hb⟩
           refine ⟨_, rfl, ?_⟩
           have n0_ := Aside0.mk (Kd.R_below (zq84) hb)
           have n1_ := Aside0.mk (Kd.R_below (zq91) hb)
           have n2_ := Aside0.mk (below_step (zq1) hb)
           clear HO_3
           clear HO256
           clear HB
           have HO_3 := n0_
           have HO256 := n1_
           have HB := n2_
           clear n0_ n1_ n2_
           (try clear hb)
           (try clear hb2)
           (try clear hk)
           (try clear hi)
           refine hK.out _ _ ⟨((HB.out.cell (World.block_lt_of_cell? w _ hw257_0)).trans hw257_0), ((HB.out.cell (World.block_lt_of_cell? w _ hw257_1)).trans hw257_1), ((HB.out.cell (World.block_lt_of_cell? w _ hw257_2)).trans hw257_2)⟩ (fun hHeld => ?_)
           clear hK K
           refine norm_ (a' := ?_) ?_ ?_
           rotate_left
           ·show Act.put _ (some 28) _ = _
            simp only [Act.put, List.setIfInBounds_toArray, List.set_cons_zero, List.set_cons_succ, i64_w, i32_w]
            rfl
           refine one_ (i := 8) (N := some 29) #[true, true, true, true, true, true, true, true, true, false, false] rfl rfl (one_of HT_.out (by kernel_rfl)) (by decide) (fun K hK => ?_)
           refine value_ (w1 := ?_) (v := ?_) (by rfl) rfl ?_ ?_
           rotate_left 2
           ·go_simp
            constructor
            ·rfl
            ·rfl
           refine hK.out _ _ ⟨(World.cell?_alloc_lt _ _ _ (World.block_lt_of_cell? _ _ (((HB.out.cell (World.block_lt_of_cell? w _ hw257_0)).trans hw257_0)))).trans (((HB.out.cell (World.block_lt_of_cell? w _ hw257_0)).trans hw257_0)), (World.cell?_alloc_lt _ _ _ (World.block_lt_of_cell? _ _ (((HB.out.cell (World.block_lt_of_cell? w _ hw257_1)).trans hw257_1)))).trans (((HB.out.cell (World.block_lt_of_cell? w _ hw257_1)).trans hw257_1)), (World.cell?_alloc_lt _ _ _ (World.block_lt_of_cell? _ _ (((HB.out.cell (World.block_lt_of_cell? w _ hw257_2)).trans hw257_2)))).trans (((HB.out.cell (World.block_lt_of_cell? w _ hw257_2)).trans hw257_2))⟩ (fun hHeld => ?_)
           clear hK K
           refine norm_ (a' := ?_) ?_ ?_
           rotate_left
           ·show Act.put _ (some 29) _ = _
            simp only [Act.put, List.setIfInBounds_toArray, List.set_cons_zero, List.set_cons_succ, i64_w, i32_w]
            rfl
           refine one_ (i := 9) (N := some 30) #[true, true, true, true, true, true, true, true, true, true, false] rfl rfl (one_of HT_.out (by kernel_rfl)) (by decide) (fun K hK => ?_)
           refine Kd.R_append_step k29 (w0 := w) w.heap.size (by rfl) (.tmp 23) (.tmp 29) 24 29 (.agg #[(.string ⟨#[]⟩), (.string ⟨#[]⟩), (.int .i64 0)]) 40 rfl Tryz.underlying24 info29 rfl (by decide) (by omega) v255 y254 (⟨t258, t259, t260⟩ : S29) [.string t258, .string t259, .int .i64 t260] (fun k_ => some k_ ≠ (.slice Ao27 x3_1.length co27 : Value).ownBlock) (fun _ => False) rfl rfl ?aP (fun _ hk => hk.elim) ?aF ?aO ?aB ?aS ?aL ?_
           (case aP => exact k29_mkM _ _ _ (⟨t258, t259, t260⟩ : S29))
           (case aB => exact zq86)
           (case aF => exact zq87)
           (case aO => exact zq92)
           (case aS => exact zq90)
           (case aL => have := LMc11.out; omega)
           intro v262 w29 ho hb hg hat
           rw [← Ny261.out] at ho
           have n0_ := Aside0.mk (Kd.R_after (ok := (fun _ => True)) (zq84) hg hat)
           have n1_ := Aside0.mk (hb)
           have n2_ := Aside0.mk (ho)
           clear HO_3
           clear HB
           clear HO256
           have HO_3 := n0_
           have HB := n1_
           have HO263 := n2_
           clear n0_ n1_ n2_
           clear ho hb hg hat
           refine hK.out _ _ ⟨((HB.out.cell (World.block_lt_of_cell? w _ hw257_0)).trans hw257_0), ((HB.out.cell (World.block_lt_of_cell? w _ hw257_1)).trans hw257_1), ((HB.out.cell (World.block_lt_of_cell? w _ hw257_2)).trans hw257_2)⟩ (fun hHeld => ?_)
           clear hK K
           refine norm_ (a' := ?_) ?_ ?_
           rotate_left
           ·show Act.put _ (some 30) _ = _
            simp only [Act.put, List.setIfInBounds_toArray, List.set_cons_zero, List.set_cons_succ, i64_w, i32_w]
            rfl
           refine pure_ (i := 10) (N := some 5) (v := ?_) (a' := ?_) #[true, true, true, true, true, true, true, true, true, true, true] rfl rfl (any_of HT_.out (by kernel_rfl)) (fun _ _ _ h => h) (Or.inl ⟨by rfl, ?_⟩) ?_ ?_
           rotate_left
           ·intro w'
            go_simp
            with_reducible rfl
           rotate_left
           ·simp only [Act.put, List.setIfInBounds_toArray, List.set_cons_zero, List.set_cons_succ, i64_w, i32_w]
            rfl
           refine done_ (done_of HT_.out (by kernel_rfl)) ?_
           obtain ⟨Ao30, co30, eo30⟩ := Kd.R_slice HO263.out
           subst eo30
           try go_wp2_with (first | ((with_reducible refine gate_callee (f := 26) rfl ?_); refine goesL_ (some 32) rfl rfl Tryz.func26 (by kernel_rfl) rfl #[.slice Ao30 y261.length co30] rfl (zq3) ?_; (with_reducible refine (dialtoneref12_Valid.calls kj1 _ _ y261 false _ ?side1 ?side2 A12.out).mono ?_); (case side1 => exact zq93); (case side2 => exact (Kd.R_reads' HO263.out).2.1); rintro e w31 ⟨rfl, hb⟩; refine ⟨_, rfl, ?_⟩; have n0_ := Aside0.mk (Kd.R_below (zq84) hb); have n1_ := Aside0.mk (Kd.R_below (zq94) hb); have n2_ := Aside0.mk (below_step (zq1) hb); clear HO_3; clear HO263; clear HB; have HO_3 := n0_; have HO263 := n1_; have HB := n2_; clear n0_ n1_ n2_; (try clear hb); (try clear hb2); (try clear hk); (try clear hi)))
           go_roundg kj1
           case measure => have := HK1.out; have := HJ1.out; omega
           case rel => exact ⟨(x3_1), (wrap64 (x4_1 + 1)), (zq6), H', ⟨by have := HK1.out; have := HJ1.out; omega⟩, ⟨by (with_reducible repeat (first | apply Kd.R_alloc | apply Kd.R_drewN | apply Kd.R_drew)); exact Kd.R_mono HO_3.out (fun _ hk => trivial)⟩, ⟨by repeat (first | (with_reducible first | exact HB.out | apply below_alloc | apply pw_below_drewN | apply below_drew1) | exact HB.out)⟩⟩
         ·rw [if_neg c11] at H
          exact absurd H (by simp)
        ·rw [if_neg c9] at H
         exact absurd H (by simp)
       ·rw [if_neg c8] at H
        exact absurd H (by simp)
      ·rw [if_neg c7] at H
       exact absurd H (by simp)
     ·replace c6 := Bool.eq_false_iff.mpr c6
      subst c6
      rw [if_neg (show ¬ (false = true) by decide)] at H
      obtain rfl := Option.some.inj H
      go_wp2
      go_ret
      exact ⟨_, by first | rfl | (simp [errW_none, errW_some] <;> rfl) | (simp [*, errW_none, errW_some] <;> rfl), by (with_reducible repeat (first | apply Kd.R_alloc | apply Kd.R_drewN | apply Kd.R_drew)); exact HO_3.out, by repeat (first | (with_reducible first | exact HB.out | apply below_alloc | apply pw_below_drewN | apply below_drew1) | exact HB.out)⟩
def dialtoneref12_phase.f (a0 : Int) : Option (Bool) := if a0 ≥ 1 then (some (decide (a0 ≤ 3))) else (some false)
set_option maxHeartbeats 8000000 in
set_option maxRecDepth 100000 in
theorem dialtoneref12_phase.calls (a0 : Int) (r : Bool) (w : World) (h : dialtoneref12_phase.f a0 = some r) :
 Calls Tryz.prog 41 #[.int .i64 a0] w fun e w' => e = .returned (.bool r) ∧ Drawn0 w w' := by
 have H : (if a0 ≥ 1 then (some (decide (a0 ≤ 3))) else (some false)) = some r := h
 clear h
 by_cases c2 : a0 ≥ 1
 ·rw [if_pos c2] at H
  have c2b0 : decide (1 ≤ a0) = true := decide_eq_true c2
  clear c2
  obtain rfl := Option.some.inj H
  go_enter Tryz.func41, Tryz.ntmps41
  go_wp2
  go_ret
  exact ⟨by first | rfl | (simp; done) | (simp [*]; done), by repeat (first | exact Drawn0.refl _ | apply Drawn0.step)⟩
 ·rw [if_neg c2] at H
  have c2b0 : decide (1 ≤ a0) = false := decide_eq_false c2
  clear c2
  obtain rfl := Option.some.inj H
  go_enter Tryz.func41, Tryz.ntmps41
  go_wp2
  go_ret
  exact ⟨by first | rfl | (simp; done) | (simp [*]; done), by repeat (first | exact Drawn0.refl _ | apply Drawn0.step)⟩
def dialtoneref12_value.l0 : Nat → ByteArray → Int → Int → Option (Int)
 | 0, _, _, _ => none
 | k + 1, x0, x3, x4 => if x4 < (x0.size : Int) then (if 0 ≤ x4 then (dialtoneref12_value.l0 k x0 (wrap64 ((wrap64 (10 * x3)) + (((bt x0 x4) - 48) % 256))) (wrap64 (x4 + 1))) else (none)) else (some x3)
def dialtoneref12_value.f (k : Nat) (a0 : ByteArray) : Option (Int) := dialtoneref12_value.l0 k a0 0 0
set_option maxHeartbeats 8000000 in
set_option maxRecDepth 100000 in
theorem dialtoneref12_value.calls (k : Nat) (a0 : ByteArray) (r : Int) (w : World) (h : dialtoneref12_value.f k a0 = some r) :
 Calls Tryz.prog 47 #[.string a0] w fun e w' => e = .returned (.int .i64 r) ∧ Drawn0 w w' := by
 have H : (dialtoneref12_value.l0 k a0 0 0) = some r := h
 clear h
 have H' := Aside0.mk H
 clear H
 go_enter Tryz.func47, Tryz.ntmps47
 go_wp2
 go_loopg [3, 4] k (fun kq v3 v4 w' => ∃ (x3_1 : Int) (x4_1 : Int), v3 = .int .i64 x3_1 ∧ v4 = .int .i64 x4_1 ∧ Aside0 (dialtoneref12_value.l0 kq a0 x3_1 x4_1 = some r) ∧ Aside0 (kq ≤ k) ∧ Drawn0 w w')
 case atStart => exact ⟨(0), (0), (zq6), (zq6), H', ⟨Nat.le_refl _⟩, by repeat (first | exact Drawn0.refl _ | apply Drawn0.step)⟩
 case round =>
  clear H'
  obtain ⟨x3_1, x4_1, rfl, rfl, HA, HK1, ⟨m1, rfl⟩⟩ := hrel
  cases gk with
  | zero => exact absurd HA.out (by simp [dialtoneref12_value.l0])
  | succ k1 =>
   have H := HA.out
   clear HA
   simp only [dialtoneref12_value.l0] at H
   by_cases c2 : x4_1 < (a0.size : Int)
   ·rw [if_pos c2] at H
    have c2b0 : decide (x4_1 < (a0.size : Int)) = true := decide_eq_true c2
    clear c2
    by_cases c3 : 0 ≤ x4_1
    ·rw [if_pos c3] at H
     have c3b0 : decide (0 ≤ x4_1) = true := decide_eq_true c3
     clear c3
     have H' := Aside0.mk H
     clear H
     have p4 : 0 ≤ (x4_1 : Int) := of_decide_eq_true (zq14)
     have q4 : x4_1 < (a0.size : Int) := of_decide_eq_true (zq14)
     have hx4 := bt_at a0 x4_1
     replace p4 := eq_true p4
     replace q4 := eq_true q4
     go_wp2
     go_roundg k1
     case measure => have := HK1.out; omega
     case rel => exact ⟨(wrap64 ((wrap64 (10 * x3_1)) + (((bt a0 x4_1) - 48) % 256))), (wrap64 (x4_1 + 1)), (zq6), (zq6), H', ⟨by have := HK1.out; omega⟩, by repeat (first | exact Drawn0.refl _ | apply Drawn0.step)⟩
    ·rw [if_neg c3] at H
     exact absurd H (by simp)
   ·rw [if_neg c2] at H
    have c2b0 : decide (x4_1 < (a0.size : Int)) = false := decide_eq_false c2
    clear c2
    obtain rfl := Option.some.inj H
    go_wp2
    go_ret
    exact ⟨by first | rfl | (simp; done) | (simp [*]; done), by repeat (first | exact Drawn0.refl _ | apply Drawn0.step)⟩
def dialtoneref12_local.f (a0_0 : ByteArray) (a0_1 : ByteArray) (a0_2 : Int) : Option (Int) := some (wrap64 (a0_2 - (a0_0.size : Int)))
set_option maxHeartbeats 8000000 in
set_option maxRecDepth 100000 in
theorem dialtoneref12_local.calls (a0_0 : ByteArray) (a0_1 : ByteArray) (a0_2 : Int) (r : Int) (w : World) (h : dialtoneref12_local.f a0_0 a0_1 a0_2 = some r) :
 Calls Tryz.prog 48 #[.agg #[.string a0_0, .string a0_1, .int .i64 a0_2]] w fun e w' => e = .returned (.int .i64 r) ∧ Below w.heap.size w w' := by
 have hu29 := Tryz.underlying29
 have HB := Aside0.mk (Below.refl w.heap.size w)
 have H : (some (wrap64 (a0_2 - (a0_0.size : Int)))) = some r := h
 clear h
 obtain rfl := Option.some.inj H
 go_enter Tryz.func48, Tryz.ntmps48
 go_wp2_with (first | ((with_reducible refine gate_dst (N := 1) rfl ?_); refine box_event ?hg (N := 1) ?hd (cs := #[.string a0_0, .string a0_1, .int .i64 a0_2]) (t := 29) ?hr ?_; (case hd => rfl); (case hg => rfl); (case hr => exact zq0); intro gb265 hg w2 hbox hb; have n0_ := Aside0.mk (below_step (zq1) hb); have n1_ := Aside0.mk (hbox); have n2_ := Aside0.mk ((zq2 : w.heap.size ≤ gb265)); have n3_ := Aside0.mk ((zq2 : w.heap.size ≤ gb265)); clear HB; have HB := n0_; have BK265 := n1_; have GW265 := n2_; have GE265 := n3_; clear n0_ n1_ n2_ n3_; clear hb hbox hg; have hcz3_0 : w2.cell? ⟨gb265, 0, none⟩ = some (.string a0_0) := (blk_cell BK265.out 0).trans rfl; have hcz3_1 : w2.cell? ⟨gb265, 1, none⟩ = some (.string a0_1) := (blk_cell BK265.out 1).trans rfl; have hcz3_2 : w2.cell? ⟨gb265, 2, none⟩ = some (.int .i64 a0_2) := (blk_cell BK265.out 2).trans rfl; have hfz3_0 := blk_frozen BK265.out 0; have hfz3_1 := blk_frozen BK265.out 1; have hfz3_2 := blk_frozen BK265.out 2))
 go_ret
 exact ⟨by first | rfl | (simp [errW_none, errW_some] <;> rfl) | (simp [*, errW_none, errW_some] <;> rfl), by repeat (first | (with_reducible first | exact HB.out | apply below_alloc | apply pw_below_drewN | apply below_drew1 | refine below_set ?_ GE265.out) | exact HB.out)⟩
end Go.Proofs.YtlmfoblgheepoaaGreatDoor.Pl
end
section
open Go.Proofs.YtlmfoblgheepoaaGreatDoor.Z
namespace Go.Proofs.YtlmfoblgheepoaaGreatDoor.Pl
open Go.RowKit Go.Proofs.YtlmfoblgheepoaaGreatDoorW.PrintWords Go.Proofs.YtlmfoblgheepoaaGreatDoorW.PrintLast Go.Proofs.YtlmfoblgheepoaaGreatDoorW.PrintMore
attribute [local go_sem] max2_int min2_int max_two min_two max_three min_three max_four min_four
set_option linter.unusedVariables false
set_option linter.unusedSimpArgs false
mutual
def dialtoneref12_Range.j0 : Nat → List (S29) → Int → Int → Bool → Option (Int × Int × Int)
 | 0, _, _, _, _ => none
 | k + 1, x0, x1, x2, x29 => if x29 = true then (some (0, 0, 120)) else (if 0 ≤ x1 then (if x1 < (x0.length : Int) then ((dialtoneref12_value.f k ((rd_T29 x0 x1).f1)).bind fun t270 => (dialtoneref12_Range.l0 k x0 x1 x2 t270 1 (((rd_T29 x0 x1).f1).size : Int))) else (none)) else (none))
def dialtoneref12_Range.l0 : Nat → List (S29) → Int → Int → Int → Int → Int → Option (Int × Int × Int)
 | 0, _, _, _, _, _, _ => none
 | k + 1, x0, x1, x2, x8, x9, x10 => if x10 < 8 then (dialtoneref12_Range.l0 k x0 x1 x2 (wrap64 (10 * x8)) (wrap64 (10 * x9)) (wrap64 (x10 + 1))) else (if x2 = 1 then (dialtoneref12_Range.l1 k x0 x1 x8 1 0) else (some (x8, wrap64 (x8 + x9), 0)))
def dialtoneref12_Range.l1 : Nat → List (S29) → Int → Int → Int → Int → Option (Int × Int × Int)
 | 0, _, _, _, _, _ => none
 | k + 1, x0, x1, x8, x9, x11 => if 0 ≤ x1 then (if x1 < (x0.length : Int) then ((dialtoneref12_local.f ((rd_T29 x0 x1).f0) ((rd_T29 x0 x1).f1) ((rd_T29 x0 x1).f2)).bind fun t273 => (if x11 < t273 then (dialtoneref12_Range.l1 k x0 x1 x8 (wrap64 (10 * x9)) (wrap64 (x11 + 1))) else (some (x8, wrap64 (x8 + x9), 0)))) else (none)) else (none)
end
def dialtoneref12_Range.f (k : Nat) (l0 : List (S29)) (a1 : Int) (a2 : Int) : Option (Int × Int × Int) := (dialtoneref12_Valid.f k l0).bind fun t267 => (if t267 = true then (if a1 < 0 then (dialtoneref12_Range.j0 k l0 a1 a2 true) else (if a1 ≥ (l0.length : Int) then (dialtoneref12_Range.j0 k l0 a1 a2 true) else ((dialtoneref12_phase.f a2).bind fun t268 => (dialtoneref12_Range.j0 k l0 a1 a2 (!t268))))) else (dialtoneref12_Range.j0 k l0 a1 a2 true))
set_option maxHeartbeats 8000000 in
set_option maxRecDepth 100000 in
theorem dialtoneref12_Range.calls (k : Nat) (A0 : Option Addr) (c0 : Nat) (l0 : List (S29)) (a1 : Int) (a2 : Int) (r1 : Int) (r2 : Int) (r3 : Int) (w : World) (hr0 : Kd.C k29 w A0 l0.length l0) (hc0 : l0.length ≤ c0) (h : dialtoneref12_Range.f k l0 a1 a2 = some (r1, r2, r3)) :
 Calls Tryz.prog 20 #[.slice A0 l0.length c0, .int .i64 a1, .int .i64 a2] w fun e w' => e = .returned (.tuple #[.agg #[.int .i64 r1, .int .i64 r2], .int .i64 r3]) ∧ Below w.heap.size w w' := by
 have hu40 := Tryz.underlying40
 have hu29 := Tryz.underlying29
 have HR0 := Aside0.mk hr0
 have HC0 := Aside0.mk hc0
 clear hr0 hc0
 have HB := Aside0.mk (Below.refl w.heap.size w)
 have H : ((dialtoneref12_Valid.f k l0).bind fun t267 => (if t267 = true then (if a1 < 0 then (dialtoneref12_Range.j0 k l0 a1 a2 true) else (if a1 ≥ (l0.length : Int) then (dialtoneref12_Range.j0 k l0 a1 a2 true) else ((dialtoneref12_phase.f a2).bind fun t268 => (dialtoneref12_Range.j0 k l0 a1 a2 (!t268))))) else (dialtoneref12_Range.j0 k l0 a1 a2 true))) = some (r1, r2, r3) := h
 clear h
 have HC4 := Aside0.mk H
 clear H
 go_enter Tryz.func20, Tryz.ntmps20
 go_upto_region 1 with (first | ((with_reducible refine gate_dst (N := 6) rfl ?_); (try (refine gate_guard (by rfl) ?_; dsimp only)); refine box_event ?hg (N := 6) ?hd (cs := #[.int .i64 0, .int .i64 0]) (t := 40) ?hr ?_; (case hd => rfl); (case hg => rfl); (case hr => exact zq0); intro gb266 hg w5 hbox hb; have n0_ := Aside0.mk (below_step (zq1) hb); have n1_ := Aside0.mk (hbox); have n2_ := Aside0.mk ((zq2 : w.heap.size ≤ gb266)); have n3_ := Aside0.mk ((zq2 : w.heap.size ≤ gb266)); clear HB; have HB := n0_; have BK266 := n1_; have GW266 := n2_; have GE266 := n3_; clear n0_ n1_ n2_ n3_; clear hb hbox hg))
 (try simp only [Act.put, List.setIfInBounds_toArray, List.set_cons_zero, List.set_cons_succ])
 go_cut [29] (fun v29 wc => ∃ (kq : Nat) (x29_3 : Bool), v29 = .bool x29_3 ∧ Aside0 (dialtoneref12_Range.j0 kq l0 a1 a2 x29_3 = some (r1, r2, r3)) ∧ Aside0 (kq ≤ k) ∧ Aside0 (wc.heap[gb266]? = some (.cells #[.int .i64 0, .int .i64 0] 40 (0, 0))) ∧ Aside0 (Below w.heap.size w wc))
 case first =>
  have H := HC4.out
  clear HC4
  replace H := Option.bind_eq_some_iff.mp H
  obtain ⟨t267, A60, H⟩ := H
  replace H : (if t267 = true then (if a1 < 0 then (dialtoneref12_Range.j0 k l0 a1 a2 true) else (if a1 ≥ (l0.length : Int) then (dialtoneref12_Range.j0 k l0 a1 a2 true) else ((dialtoneref12_phase.f a2).bind fun t268 => (dialtoneref12_Range.j0 k l0 a1 a2 (!t268))))) else (dialtoneref12_Range.j0 k l0 a1 a2 true)) = some (r1, r2, r3) := H
  have A6 := Aside0.mk A60
  clear A60
  by_cases c7 : t267 = true
  ·subst c7
   have H1 : (if a1 < 0 then (dialtoneref12_Range.j0 k l0 a1 a2 true) else (if a1 ≥ (l0.length : Int) then (dialtoneref12_Range.j0 k l0 a1 a2 true) else ((dialtoneref12_phase.f a2).bind fun t268 => (dialtoneref12_Range.j0 k l0 a1 a2 (!t268))))) = some (r1, r2, r3) := by rw [if_pos rfl] at H; exact H
   clear H
   have H := H1
   clear H1
   by_cases c8 : a1 < 0
   ·rw [if_pos c8] at H
    have c8b0 : decide (a1 < 0) = true := decide_eq_true c8
    clear c8
    (first | rw [c8b0] | (simp only [i64_w, i32_w]; rw [c8b0]) | skip)
    have H' := Aside0.mk H
    clear H
    go_wp2_with (first | ((with_reducible refine gate_callee (f := 26) rfl ?_); refine goesL_ (some 13) rfl rfl Tryz.func26 (by kernel_rfl) rfl #[.slice A0 l0.length c0] rfl (zq3) ?_; (with_reducible refine (dialtoneref12_Valid.calls k _ _ l0 true _ ?side1 ?side2 A6.out).mono ?_); (case side1 => exact zq25); (case side2 => exact zq26); rintro e w9 ⟨rfl, hb⟩; refine ⟨_, rfl, ?_⟩; have n0_ := Aside0.mk (blk_below (g := gb266) (o := .cells #[.int .i64 0, .int .i64 0] 40 (0, 0)) (zq95) hb); have n1_ := Aside0.mk (below_step (zq96) hb); clear BK266; clear HB; have BK266 := n0_; have HB := n1_; clear n0_ n1_; (try clear hb); (try clear hb2); (try clear hk); (try clear hi)))
    go_meet
    case rel => exact ⟨_, (true), (zq6), H', ⟨by first | omega | exact Nat.le_refl _⟩, ⟨by (with_reducible repeat (first | refine blk_drewN ?_ _ | refine blk_drew ?_ | refine blk_alloc ?_ _)); exact BK266.out⟩, ⟨by repeat (first | (with_reducible first | exact HB.out | apply below_alloc | apply pw_below_drewN | apply below_drew1 | refine below_set ?_ GE266.out) | exact HB.out)⟩⟩
   ·rw [if_neg c8] at H
    have c8b0 : decide (a1 < 0) = false := decide_eq_false c8
    clear c8
    (first | rw [c8b0] | (simp only [i64_w, i32_w]; rw [c8b0]) | skip)
    by_cases c10 : a1 ≥ (l0.length : Int)
    ·rw [if_pos c10] at H
     have c10b0 : decide ((l0.length : Int) ≤ a1) = true := decide_eq_true c10
     clear c10
     have H' := Aside0.mk H
     clear H
     go_wp2_with (first | ((with_reducible refine gate_callee (f := 26) rfl ?_); refine goesL_ (some 13) rfl rfl Tryz.func26 (by kernel_rfl) rfl #[.slice A0 l0.length c0] rfl (zq3) ?_; (with_reducible refine (dialtoneref12_Valid.calls k _ _ l0 true _ ?side1 ?side2 A6.out).mono ?_); (case side1 => exact zq25); (case side2 => exact zq26); rintro e w11 ⟨rfl, hb⟩; refine ⟨_, rfl, ?_⟩; have n0_ := Aside0.mk (blk_below (g := gb266) (o := .cells #[.int .i64 0, .int .i64 0] 40 (0, 0)) (zq95) hb); have n1_ := Aside0.mk (below_step (zq96) hb); clear BK266; clear HB; have BK266 := n0_; have HB := n1_; clear n0_ n1_; (try clear hb); (try clear hb2); (try clear hk); (try clear hi)))
     go_meet
     case rel => exact ⟨_, (true), (zq6), H', ⟨by first | omega | exact Nat.le_refl _⟩, ⟨by (with_reducible repeat (first | refine blk_drewN ?_ _ | refine blk_drew ?_ | refine blk_alloc ?_ _)); exact BK266.out⟩, ⟨by repeat (first | (with_reducible first | exact HB.out | apply below_alloc | apply pw_below_drewN | apply below_drew1 | refine below_set ?_ GE266.out) | exact HB.out)⟩⟩
    ·rw [if_neg c10] at H
     have c10b0 : decide ((l0.length : Int) ≤ a1) = false := decide_eq_false c10
     clear c10
     replace H := Option.bind_eq_some_iff.mp H
     obtain ⟨t268, A120, H⟩ := H
     replace H : (dialtoneref12_Range.j0 k l0 a1 a2 (!t268)) = some (r1, r2, r3) := H
     have A12 := Aside0.mk A120
     clear A120
     have H' := Aside0.mk H
     clear H
     go_wp2_with (first | ((with_reducible refine gate_callee (f := 26) rfl ?_); refine goesL_ (some 13) rfl rfl Tryz.func26 (by kernel_rfl) rfl #[.slice A0 l0.length c0] rfl (zq3) ?_; (with_reducible refine (dialtoneref12_Valid.calls k _ _ l0 true _ ?side1 ?side2 A6.out).mono ?_); (case side1 => exact zq25); (case side2 => exact zq26); rintro e w13 ⟨rfl, hb⟩; refine ⟨_, rfl, ?_⟩; have n0_ := Aside0.mk (blk_below (g := gb266) (o := .cells #[.int .i64 0, .int .i64 0] 40 (0, 0)) (zq95) hb); have n1_ := Aside0.mk (below_step (zq96) hb); clear BK266; clear HB; have BK266 := n0_; have HB := n1_; clear n0_ n1_; (try clear hb); (try clear hb2); (try clear hk); (try clear hi)) | (go_at_call 41; (with_reducible refine (dialtoneref12_phase.calls a2 t268 _ A12.out).mono ?_); rintro e w' ⟨rfl, ⟨nd, rfl⟩⟩))
     go_meet
     case rel => exact ⟨_, (!t268), (zq6), H', ⟨by first | omega | exact Nat.le_refl _⟩, ⟨by (with_reducible repeat (first | refine blk_drewN ?_ _ | refine blk_drew ?_ | refine blk_alloc ?_ _)); exact BK266.out⟩, ⟨by repeat (first | (with_reducible first | exact HB.out | apply below_alloc | apply pw_below_drewN | apply below_drew1 | refine below_set ?_ GE266.out) | exact HB.out)⟩⟩
  ·replace c7 := Bool.eq_false_iff.mpr c7
   subst c7
   have H1 : (dialtoneref12_Range.j0 k l0 a1 a2 true) = some (r1, r2, r3) := by rw [if_neg (show ¬ (false = true) by decide)] at H; exact H
   clear H
   have H := H1
   clear H1
   have H' := Aside0.mk H
   clear H
   go_wp2_with (first | ((with_reducible refine gate_callee (f := 26) rfl ?_); refine goesL_ (some 13) rfl rfl Tryz.func26 (by kernel_rfl) rfl #[.slice A0 l0.length c0] rfl (zq3) ?_; (with_reducible refine (dialtoneref12_Valid.calls k _ _ l0 false _ ?side1 ?side2 A6.out).mono ?_); (case side1 => exact zq25); (case side2 => exact zq26); rintro e w14 ⟨rfl, hb⟩; refine ⟨_, rfl, ?_⟩; have n0_ := Aside0.mk (blk_below (g := gb266) (o := .cells #[.int .i64 0, .int .i64 0] 40 (0, 0)) (zq95) hb); have n1_ := Aside0.mk (below_step (zq96) hb); clear BK266; clear HB; have BK266 := n0_; have HB := n1_; clear n0_ n1_; (try clear hb); (try clear hb2); (try clear hk); (try clear hi)))
   go_meet
   case rel => exact ⟨_, (true), (zq6), H', ⟨by first | omega | exact Nat.le_refl _⟩, ⟨by (with_reducible repeat (first | refine blk_drewN ?_ _ | refine blk_drew ?_ | refine blk_alloc ?_ _)); exact BK266.out⟩, ⟨by repeat (first | (with_reducible first | exact HB.out | apply below_alloc | apply pw_below_drewN | apply below_drew1 | refine below_set ?_ GE266.out) | exact HB.out)⟩⟩
 case rest =>
  clear HC4
  try clear c1
  try clear c2
  try clear p2
  try clear p6
  try clear c7
  try clear c8
  try clear c8b0
  try clear c10
  try clear c10b0
  obtain ⟨kq, x29_3, rfl, HA, HJ3, BK266, HB⟩ := hcut
  cases kq with
  | zero => exact absurd HA.out (by simp [dialtoneref12_Range.j0])
  | succ kj3 =>
   have H := HA.out
   clear HA
   simp only [dialtoneref12_Range.j0] at H
   by_cases c15 : x29_3 = true
   ·subst c15
    have H1 : (some (0, 0, 120)) = some (r1, r2, r3) := by rw [if_pos rfl] at H; exact H
    clear H
    have H := H1
    clear H1
    simp only [Option.some.injEq, Prod.mk.injEq] at H
    obtain ⟨rfl, rfl, rfl⟩ := H
    have hcz16_0 : wc.cell? ⟨gb266, 0, none⟩ = some (.int .i64 0) := (blk_cell BK266.out 0).trans rfl
    have hcz16_1 : wc.cell? ⟨gb266, 1, none⟩ = some (.int .i64 0) := (blk_cell BK266.out 1).trans rfl
    have hfz16_0 := blk_frozen BK266.out 0
    have hfz16_1 := blk_frozen BK266.out 1
    go_wp2
    refine bodyPost_ret (results_ct rfl _ _ gb266 40 #[.int .i64 0, .int .i64 0] (0, 0) _ rfl (by (with_reducible repeat (first | refine blk_drewN ?_ _ | refine blk_drew ?_ | refine blk_alloc ?_ _)); refine blk_put (cs := #[.int .i64 0, .int .i64 0]) ?_ 1 _ rfl; (with_reducible repeat (first | refine blk_drewN ?_ _ | refine blk_drew ?_ | refine blk_alloc ?_ _)); refine blk_put (cs := #[.int .i64 0, .int .i64 0]) ?_ 0 _ rfl; (with_reducible repeat (first | refine blk_drewN ?_ _ | refine blk_drew ?_ | refine blk_alloc ?_ _)); exact BK266.out) Tryz.underlying40 rfl (by kernel_rfl)) rfl ?_
    exact ⟨by first | rfl | (simp [errW_none, errW_some] <;> rfl) | (simp [*, errW_none, errW_some] <;> rfl), by repeat (first | (with_reducible first | exact HB.out | apply below_alloc | apply pw_below_drewN | apply below_drew1 | refine below_set ?_ GE266.out) | exact HB.out)⟩
   ·replace c15 := Bool.eq_false_iff.mpr c15
    subst c15
    have H1 : (if 0 ≤ a1 then (if a1 < (l0.length : Int) then ((dialtoneref12_value.f kj3 ((rd_T29 l0 a1).f1)).bind fun t270 => (dialtoneref12_Range.l0 kj3 l0 a1 a2 t270 1 (((rd_T29 l0 a1).f1).size : Int))) else (none)) else (none)) = some (r1, r2, r3) := by rw [if_neg (show ¬ (false = true) by decide)] at H; exact H
    clear H
    have H := H1
    clear H1
    by_cases c17 : 0 ≤ a1
    ·rw [if_pos c17] at H
     have c17b0 : decide (0 ≤ a1) = true := decide_eq_true c17
     clear c17
     by_cases c18 : a1 < (l0.length : Int)
     ·rw [if_pos c18] at H
      have c18b0 : decide (a1 < (l0.length : Int)) = true := decide_eq_true c18
      clear c18
      replace H := Option.bind_eq_some_iff.mp H
      obtain ⟨t270, A190, H⟩ := H
      replace H : (dialtoneref12_Range.l0 kj3 l0 a1 a2 t270 1 (((rd_T29 l0 a1).f1).size : Int)) = some (r1, r2, r3) := H
      have A19 := Aside0.mk A190
      clear A190
      have H' := Aside0.mk H
      clear H
      have p269 : 0 ≤ (a1 : Int) := of_decide_eq_true (zq14)
      have q269 : a1 < (l0.length : Int) := of_decide_eq_true (zq14)
      obtain ⟨ad269, e269, hx269_0, hx269_1, hx269_2⟩ := at_T29 HR0.out a1 p269 q269
      cases e269
      replace hx269_0 := (HB.out.cell (World.block_lt_of_cell? w _ hx269_0)).trans hx269_0
      replace hx269_1 := (HB.out.cell (World.block_lt_of_cell? w _ hx269_1)).trans hx269_1
      replace hx269_2 := (HB.out.cell (World.block_lt_of_cell? w _ hx269_2)).trans hx269_2
      replace p269 := eq_true p269
      replace q269 := eq_true q269
      go_wp2_with (first | ((with_reducible refine gate_callee (f := 47) rfl ?_); refine goesL_ (some 36) rfl rfl Tryz.func47 (by kernel_rfl) rfl #[.string ((rd_T29 l0 a1).f1)] rfl (zq3) ?_; (with_reducible refine (dialtoneref12_value.calls kj3 ((rd_T29 l0 a1).f1) t270 _ A19.out).mono ?_); rintro e w' ⟨rfl, ⟨nd, rfl⟩⟩; refine ⟨_, rfl, ?_⟩; have p271 : 0 ≤ (a1 : Int) := of_decide_eq_true (zq14); have q271 : a1 < (l0.length : Int) := of_decide_eq_true (zq14); obtain ⟨ad271, e271, hx271_0, hx271_1, hx271_2⟩ := at_T29 HR0.out a1 p271 q271; obtain rfl : ad269 = ad271 := (by injection e271); replace hx271_0 := (HB.out.cell (World.block_lt_of_cell? w _ hx271_0)).trans hx271_0; replace hx271_1 := (HB.out.cell (World.block_lt_of_cell? w _ hx271_1)).trans hx271_1; replace hx271_2 := (HB.out.cell (World.block_lt_of_cell? w _ hx271_2)).trans hx271_2; replace p271 := eq_true p271; replace q271 := eq_true q271))
      go_loopg [8, 9, 10] kj3 (fun kq v8 v9 v10 w' => ∃ (x8_2 : Int) (x9_2 : Int) (x10_2 : Int), v8 = .int .i64 x8_2 ∧ v9 = .int .i64 x9_2 ∧ v10 = .int .i64 x10_2 ∧ Aside0 (dialtoneref12_Range.l0 kq l0 a1 a2 x8_2 x9_2 x10_2 = some (r1, r2, r3)) ∧ Aside0 (kq ≤ kj3) ∧ Aside0 (w'.heap[gb266]? = some (.cells #[.int .i64 0, .int .i64 0] 40 (0, 0))) ∧ Aside0 (Below w.heap.size w w'))
      case atStart => exact ⟨(t270), (1), ((((rd_T29 l0 a1).f1).size : Int)), (zq6), (zq6), (zq6), H', ⟨Nat.le_refl _⟩, ⟨by (with_reducible repeat (first | refine blk_drewN ?_ _ | refine blk_drew ?_ | refine blk_alloc ?_ _)); exact BK266.out⟩, ⟨by repeat (first | (with_reducible first | exact HB.out | apply below_alloc | apply pw_below_drewN | apply below_drew1 | refine below_set ?_ GE266.out) | exact HB.out)⟩⟩
      case round =>
       clear H'
       try clear c1
       try clear c2
       try clear p2
       try clear q2
       try clear hx2
       try clear c4
       try clear p6
       try clear c7
       try clear c8
       try clear c8b0
       try clear c10
       try clear c10b0
       try clear c15
       try clear c17
       try clear c17b0
       try clear c18
       try clear c18b0
       try clear hcz16_0
       try clear hcz16_1
       try clear hfz16_0
       try clear hfz16_1
       try clear hx269_0
       try clear hx269_1
       try clear hx269_2
       try clear hx271_0
       try clear hx271_1
       try clear hx271_2
       try clear p2
       try clear p269
       try clear p271
       try clear p6
       try clear q269
       try clear q271
       obtain ⟨x8_2, x9_2, x10_2, rfl, rfl, rfl, HA, HK2, BK266, HB⟩ := hrel
       cases gk with
       | zero => exact absurd HA.out (by simp [dialtoneref12_Range.l0])
       | succ k2 =>
        have H := HA.out
        clear HA
        simp only [dialtoneref12_Range.l0] at H
        by_cases c20 : x10_2 < 8
        ·rw [if_pos c20] at H
         have c20b0 : decide (x10_2 < 8) = true := decide_eq_true c20
         clear c20
         have H' := Aside0.mk H
         clear H
         go_wp2
         go_roundg k2
         case measure => have := HJ3.out; have := HK2.out; omega
         case rel => exact ⟨(wrap64 (10 * x8_2)), (wrap64 (10 * x9_2)), (wrap64 (x10_2 + 1)), (zq6), (zq6), (zq6), H', ⟨by have := HJ3.out; have := HK2.out; omega⟩, ⟨by (with_reducible repeat (first | refine blk_drewN ?_ _ | refine blk_drew ?_ | refine blk_alloc ?_ _)); exact BK266.out⟩, ⟨by repeat (first | (with_reducible first | exact HB.out | apply below_alloc | apply pw_below_drewN | apply below_drew1 | refine below_set ?_ GE266.out) | exact HB.out)⟩⟩
        ·rw [if_neg c20] at H
         have c20b0 : decide (x10_2 < 8) = false := decide_eq_false c20
         clear c20
         by_cases c21 : a2 = 1
         ·rw [if_pos c21] at H
          have c21b0 : (a2 == 1) = true := beq_iff_eq.mpr c21
          have c21b1 : (a2 != 1) = false := bne_eq_false_iff_eq.mpr c21
          clear c21
          have H' := Aside0.mk H
          clear H
          go_wp2
          go_loopg [9, 11] k2 (fun kq v9 v11 w' => ∃ (x9_3 : Int) (x11_3 : Int), v9 = .int .i64 x9_3 ∧ v11 = .int .i64 x11_3 ∧ Aside0 (dialtoneref12_Range.l1 kq l0 a1 x8_2 x9_3 x11_3 = some (r1, r2, r3)) ∧ Aside0 (kq ≤ k2) ∧ Aside0 (w'.heap[gb266]? = some (.cells #[.int .i64 0, .int .i64 0] 40 (0, 0))) ∧ Aside0 (Below w.heap.size w w'))
          case atStart => exact ⟨(1), (0), (zq6), (zq6), H', ⟨Nat.le_refl _⟩, ⟨by (with_reducible repeat (first | refine blk_drewN ?_ _ | refine blk_drew ?_ | refine blk_alloc ?_ _)); exact BK266.out⟩, ⟨by repeat (first | (with_reducible first | exact HB.out | apply below_alloc | apply pw_below_drewN | apply below_drew1 | refine below_set ?_ GE266.out) | exact HB.out)⟩⟩
          case round =>
           clear H'
           try clear c1
           try clear c2
           try clear p2
           try clear q2
           try clear hx2
           try clear c4
           try clear p6
           try clear c7
           try clear c8
           try clear c8b0
           try clear c10
           try clear c10b0
           try clear c15
           try clear c17
           try clear c17b0
           try clear c18
           try clear c18b0
           try clear c20
           try clear c20b0
           try clear c21
           try clear c21b0
           try clear c21b1
           try clear hcz16_0
           try clear hcz16_1
           try clear hfz16_0
           try clear hfz16_1
           try clear hx269_0
           try clear hx269_1
           try clear hx269_2
           try clear hx271_0
           try clear hx271_1
           try clear hx271_2
           try clear p2
           try clear p269
           try clear p271
           try clear p6
           try clear q2
           try clear q269
           try clear q271
           obtain ⟨x9_3, x11_3, rfl, rfl, HA, HK3, BK266, HB⟩ := hrel
           cases gk with
           | zero => exact absurd HA.out (by simp [dialtoneref12_Range.l1])
           | succ k3 =>
            have H := HA.out
            clear HA
            simp only [dialtoneref12_Range.l1] at H
            by_cases c22 : 0 ≤ a1
            ·rw [if_pos c22] at H
             have c22b0 : decide (0 ≤ a1) = true := decide_eq_true c22
             clear c22
             by_cases c23 : a1 < (l0.length : Int)
             ·rw [if_pos c23] at H
              have c23b0 : decide (a1 < (l0.length : Int)) = true := decide_eq_true c23
              clear c23
              replace H := Option.bind_eq_some_iff.mp H
              obtain ⟨t273, A240, H⟩ := H
              replace H : (if x11_3 < t273 then (dialtoneref12_Range.l1 k3 l0 a1 x8_2 (wrap64 (10 * x9_3)) (wrap64 (x11_3 + 1))) else (some (x8_2, wrap64 (x8_2 + x9_3), 0))) = some (r1, r2, r3) := H
              have A24 := Aside0.mk A240
              clear A240
              by_cases c25 : x11_3 < t273
              ·rw [if_pos c25] at H
               have c25b0 : decide (x11_3 < t273) = true := decide_eq_true c25
               clear c25
               have H' := Aside0.mk H
               clear H
               have p272 : 0 ≤ (a1 : Int) := of_decide_eq_true (zq14)
               have q272 : a1 < (l0.length : Int) := of_decide_eq_true (zq14)
               obtain ⟨ad272, e272, hx272_0, hx272_1, hx272_2⟩ := at_T29 HR0.out a1 p272 q272
               obtain rfl : ad269 = ad272 := (by injection e272)
               replace hx272_0 := (HB.out.cell (World.block_lt_of_cell? w _ hx272_0)).trans hx272_0
               replace hx272_1 := (HB.out.cell (World.block_lt_of_cell? w _ hx272_1)).trans hx272_1
               replace hx272_2 := (HB.out.cell (World.block_lt_of_cell? w _ hx272_2)).trans hx272_2
               replace p272 := eq_true p272
               replace q272 := eq_true q272
               go_wp2_with (first | ((with_reducible refine gate_callee (f := 48) rfl ?_); refine goesL_ (some 58) rfl rfl Tryz.func48 (by kernel_rfl) rfl #[.agg #[.string ((rd_T29 l0 a1).f0), .string ((rd_T29 l0 a1).f1), .int .i64 ((rd_T29 l0 a1).f2)]] rfl (zq3) ?_; (with_reducible refine (dialtoneref12_local.calls ((rd_T29 l0 a1).f0) ((rd_T29 l0 a1).f1) ((rd_T29 l0 a1).f2) t273 _ A24.out).mono ?_); rintro e w26 ⟨rfl, hb⟩; refine ⟨_, rfl, ?_⟩; have n0_ := Aside0.mk (blk_below (g := gb266) (o := .cells #[.int .i64 0, .int .i64 0] 40 (0, 0)) (zq95) hb); have n1_ := Aside0.mk (below_step (zq96) hb); clear BK266; clear HB; have BK266 := n0_; have HB := n1_; clear n0_ n1_; (try clear hb); (try clear hb2); (try clear hk); (try clear hi)))
               go_roundg k3
               case measure => have := HJ3.out; have := HK2.out; have := HK3.out; omega
               case rel => exact ⟨(wrap64 (10 * x9_3)), (wrap64 (x11_3 + 1)), (zq6), (zq6), H', ⟨by have := HJ3.out; have := HK2.out; have := HK3.out; omega⟩, ⟨by (with_reducible repeat (first | refine blk_drewN ?_ _ | refine blk_drew ?_ | refine blk_alloc ?_ _)); exact BK266.out⟩, ⟨by repeat (first | (with_reducible first | exact HB.out | apply below_alloc | apply pw_below_drewN | apply below_drew1 | refine below_set ?_ GE266.out) | exact HB.out)⟩⟩
              ·rw [if_neg c25] at H
               have c25b0 : decide (x11_3 < t273) = false := decide_eq_false c25
               clear c25
               simp only [Option.some.injEq, Prod.mk.injEq] at H
               obtain ⟨rfl, rfl, rfl⟩ := H
               have p272 : 0 ≤ (a1 : Int) := of_decide_eq_true (zq14)
               have q272 : a1 < (l0.length : Int) := of_decide_eq_true (zq14)
               obtain ⟨ad272, e272, hx272_0, hx272_1, hx272_2⟩ := at_T29 HR0.out a1 p272 q272
               obtain rfl : ad269 = ad272 := (by injection e272)
               replace hx272_0 := (HB.out.cell (World.block_lt_of_cell? w _ hx272_0)).trans hx272_0
               replace hx272_1 := (HB.out.cell (World.block_lt_of_cell? w _ hx272_1)).trans hx272_1
               replace hx272_2 := (HB.out.cell (World.block_lt_of_cell? w _ hx272_2)).trans hx272_2
               replace p272 := eq_true p272
               replace q272 := eq_true q272
               go_wp2_with (first | ((with_reducible refine gate_callee (f := 48) rfl ?_); refine goesL_ (some 58) rfl rfl Tryz.func48 (by kernel_rfl) rfl #[.agg #[.string ((rd_T29 l0 a1).f0), .string ((rd_T29 l0 a1).f1), .int .i64 ((rd_T29 l0 a1).f2)]] rfl (zq3) ?_; (with_reducible refine (dialtoneref12_local.calls ((rd_T29 l0 a1).f0) ((rd_T29 l0 a1).f1) ((rd_T29 l0 a1).f2) t273 _ A24.out).mono ?_); rintro e w27 ⟨rfl, hb⟩; refine ⟨_, rfl, ?_⟩; have n0_ := Aside0.mk (blk_below (g := gb266) (o := .cells #[.int .i64 0, .int .i64 0] 40 (0, 0)) (zq95) hb); have n1_ := Aside0.mk (below_step (zq96) hb); clear BK266; clear HB; have BK266 := n0_; have HB := n1_; clear n0_ n1_; (try clear hb); (try clear hb2); (try clear hk); (try clear hi); have hcz28_0 : w27.cell? ⟨gb266, 0, none⟩ = some (.int .i64 0) := (blk_cell BK266.out 0).trans rfl; have hcz28_1 : w27.cell? ⟨gb266, 1, none⟩ = some (.int .i64 0) := (blk_cell BK266.out 1).trans rfl; have hfz28_0 := blk_frozen BK266.out 0; have hfz28_1 := blk_frozen BK266.out 1))
               refine bodyPost_ret (results_ct rfl _ _ gb266 40 #[.int .i64 x8_2, .int .i64 (wrap64 (x8_2 + x9_3))] (0, 0) _ rfl (zq97) Tryz.underlying40 rfl (by kernel_rfl)) rfl ?_
               exact ⟨by first | rfl | (simp [errW_none, errW_some] <;> rfl) | (simp [*, errW_none, errW_some] <;> rfl), by repeat (first | (with_reducible first | exact HB.out | apply below_alloc | apply pw_below_drewN | apply below_drew1 | refine below_set ?_ GE266.out) | exact HB.out)⟩
             ·rw [if_neg c23] at H
              exact absurd H (by simp)
            ·rw [if_neg c22] at H
             exact absurd H (by simp)
         ·rw [if_neg c21] at H
          have c21b0 : (a2 == 1) = false := beq_eq_false_iff_ne.mpr c21
          have c21b1 : (a2 != 1) = true := bne_iff_ne.mpr c21
          simp only [Option.some.injEq, Prod.mk.injEq] at H
          obtain ⟨rfl, rfl, rfl⟩ := H
          have hcz29_0 : wr.cell? ⟨gb266, 0, none⟩ = some (.int .i64 0) := (blk_cell BK266.out 0).trans rfl
          have hcz29_1 : wr.cell? ⟨gb266, 1, none⟩ = some (.int .i64 0) := (blk_cell BK266.out 1).trans rfl
          have hfz29_0 := blk_frozen BK266.out 0
          have hfz29_1 := blk_frozen BK266.out 1
          go_wp2
          refine bodyPost_ret (results_ct rfl _ _ gb266 40 #[.int .i64 x8_2, .int .i64 (wrap64 (x8_2 + x9_2))] (0, 0) _ rfl (zq97) Tryz.underlying40 rfl (by kernel_rfl)) rfl ?_
          exact ⟨by first | rfl | (simp [errW_none, errW_some] <;> rfl) | (simp [*, errW_none, errW_some] <;> rfl), by repeat (first | (with_reducible first | exact HB.out | apply below_alloc | apply pw_below_drewN | apply below_drew1 | refine below_set ?_ GE266.out) | exact HB.out)⟩
     ·rw [if_neg c18] at H
      exact absurd H (by simp)
    ·rw [if_neg c17] at H
     exact absurd H (by simp)
def dialtoneref12_Number.j0 : Nat → List (S29) → Int → Int → Bool → Option (Int)
 | 0, _, _, _, _ => none
 | k + 1, x0, x1, x2, x16 => if x16 = true then ((dialtoneref12_pick.f x2 100000000).bind fun t275 => (some t275)) else ((dialtoneref12_pick.f (wrap64 (Int.tdiv x1 16)) (x0.length : Int)).bind fun t276 => ((dialtoneref12_pick.f x1 3).bind fun t277 => ((dialtoneref12_Range.f k x0 t276 (wrap64 (1 + t277))).bind fun bt278 => ((dialtoneref12_pick.f x2 (wrap64 (bt278.2.1 - bt278.1))).bind fun t282 => (some (wrap64 (bt278.1 + t282)))))))
def dialtoneref12_Number.f (k : Nat) (l0 : List (S29)) (a1 : Int) (a2 : Int) : Option (Int) := if (l0.length : Int) = 0 then (dialtoneref12_Number.j0 k l0 a1 a2 true) else ((dialtoneref12_pick.f a1 16).bind fun t274 => (dialtoneref12_Number.j0 k l0 a1 a2 (t274 == 15)))
set_option maxHeartbeats 8000000 in
set_option maxRecDepth 100000 in
theorem dialtoneref12_Number.calls (k : Nat) (A0 : Option Addr) (c0 : Nat) (l0 : List (S29)) (a1 : Int) (a2 : Int) (r : Int) (w : World) (hr0 : Kd.C k29 w A0 l0.length l0) (hc0 : l0.length ≤ c0) (h : dialtoneref12_Number.f k l0 a1 a2 = some r) :
 Calls Tryz.prog 13 #[.slice A0 l0.length c0, .int .i64 a1, .int .i64 a2] w fun e w' => e = .returned (.int .i64 r) ∧ Below w.heap.size w w' := by
 have hu40 := Tryz.underlying40
 have HR0 := Aside0.mk hr0
 have HC0 := Aside0.mk hc0
 clear hr0 hc0
 have HB := Aside0.mk (Below.refl w.heap.size w)
 have H : (if (l0.length : Int) = 0 then (dialtoneref12_Number.j0 k l0 a1 a2 true) else ((dialtoneref12_pick.f a1 16).bind fun t274 => (dialtoneref12_Number.j0 k l0 a1 a2 (t274 == 15)))) = some r := h
 clear h
 have HC4 := Aside0.mk H
 clear H
 go_enter Tryz.func13, Tryz.ntmps13
 go_upto_region 1 with (fail)
 repeat (go_quiet (fail); go_upto_region 1 with (fail))
 go_cut [16] (fun v16 wc => ∃ (kq : Nat) (x16_3 : Bool), v16 = .bool x16_3 ∧ Aside0 (dialtoneref12_Number.j0 kq l0 a1 a2 x16_3 = some r) ∧ Aside0 (kq ≤ k) ∧ Aside0 (Below w.heap.size w wc))
 case first =>
  have H := HC4.out
  clear HC4
  by_cases c5 : (l0.length : Int) = 0
  ·rw [if_pos c5] at H
   have c5b0 : ((l0.length : Int) == 0) = true := beq_iff_eq.mpr c5
   have c5b1 : ((l0.length : Int) != 0) = false := bne_eq_false_iff_eq.mpr c5
   clear c5
   (first | rw [c5b0] | (simp only [i64_w, i32_w]; rw [c5b0]) | skip)
   have H' := Aside0.mk H
   clear H
   go_wp2
   repeat (go_quiet (fail); try go_wp2)
   go_meet
   case rel => exact ⟨_, (true), (zq6), H', ⟨by first | omega | exact Nat.le_refl _⟩, ⟨by repeat (first | (with_reducible first | exact HB.out | apply below_alloc | apply pw_below_drewN | apply below_drew1) | exact HB.out)⟩⟩
  ·rw [if_neg c5] at H
   have c5b0 : ((l0.length : Int) == 0) = false := beq_eq_false_iff_ne.mpr c5
   have c5b1 : ((l0.length : Int) != 0) = true := bne_iff_ne.mpr c5
   have c5b2 : ¬ (l0 = []) := fun h_ => c5 (by rw [h_]; rfl)
   (first | rw [c5b0] | (simp only [i64_w, i32_w]; rw [c5b0]) | skip)
   replace H := Option.bind_eq_some_iff.mp H
   obtain ⟨t274, A60, H⟩ := H
   try dsimp only at H
   have A6 := Aside0.mk A60
   clear A60
   have H' := Aside0.mk H
   clear H
   go_wp2_with (first | (go_at_call 33; (with_reducible refine (dialtoneref12_pick.calls a1 16 t274 _ A6.out).mono ?_); rintro e w' ⟨rfl, ⟨nd, rfl⟩⟩; (try first | exact ⟨rfl, _, World.drewN_drewN _ _ _⟩ | exact ⟨rfl, _, Eq.trans (World.drewN_drewN _ _ _) (congrArg (World.drewN _) (Nat.add_assoc _ _ _))⟩)))
   repeat (go_quiet (first | (go_at_call 33; (with_reducible refine (dialtoneref12_pick.calls a1 16 t274 _ A6.out).mono ?_); rintro e w' ⟨rfl, ⟨nd, rfl⟩⟩; (try first | exact ⟨rfl, _, World.drewN_drewN _ _ _⟩ | exact ⟨rfl, _, Eq.trans (World.drewN_drewN _ _ _) (congrArg (World.drewN _) (Nat.add_assoc _ _ _))⟩))); try go_wp2_with (first | (go_at_call 33; (with_reducible refine (dialtoneref12_pick.calls a1 16 t274 _ A6.out).mono ?_); rintro e w' ⟨rfl, ⟨nd, rfl⟩⟩; (try first | exact ⟨rfl, _, World.drewN_drewN _ _ _⟩ | exact ⟨rfl, _, Eq.trans (World.drewN_drewN _ _ _) (congrArg (World.drewN _) (Nat.add_assoc _ _ _))⟩))))
   go_meet
   case rel => exact ⟨_, ((t274 == 15)), (zq6), H', ⟨by first | omega | exact Nat.le_refl _⟩, ⟨by repeat (first | (with_reducible first | exact HB.out | apply below_alloc | apply pw_below_drewN | apply below_drew1) | exact HB.out)⟩⟩
 case rest =>
  clear HC4
  try clear c1
  try clear p2
  try clear c5
  try clear c5b0
  try clear c5b1
  try clear c5b2
  obtain ⟨kq, x16_3, rfl, HA, HJ3, HB⟩ := hcut
  cases kq with
  | zero => exact absurd HA.out (by simp [dialtoneref12_Number.j0])
  | succ kj3 =>
   have H := HA.out
   clear HA
   simp only [dialtoneref12_Number.j0] at H
   by_cases c7 : x16_3 = true
   ·subst c7
    rw [if_pos rfl] at H
    replace H := Option.bind_eq_some_iff.mp H
    obtain ⟨t275, A80, H⟩ := H
    try dsimp only at H
    have A8 := Aside0.mk A80
    clear A80
    obtain rfl := Option.some.inj H
    go_wp2_with (first | (go_at_call 33; (with_reducible refine (dialtoneref12_pick.calls a2 100000000 t275 _ A8.out).mono ?_); rintro e w' ⟨rfl, ⟨nd, rfl⟩⟩; (try first | exact ⟨rfl, _, World.drewN_drewN _ _ _⟩ | exact ⟨rfl, _, Eq.trans (World.drewN_drewN _ _ _) (congrArg (World.drewN _) (Nat.add_assoc _ _ _))⟩)))
    repeat (go_quiet (first | (go_at_call 33; (with_reducible refine (dialtoneref12_pick.calls a2 100000000 t275 _ A8.out).mono ?_); rintro e w' ⟨rfl, ⟨nd, rfl⟩⟩; (try first | exact ⟨rfl, _, World.drewN_drewN _ _ _⟩ | exact ⟨rfl, _, Eq.trans (World.drewN_drewN _ _ _) (congrArg (World.drewN _) (Nat.add_assoc _ _ _))⟩))); try go_wp2_with (first | (go_at_call 33; (with_reducible refine (dialtoneref12_pick.calls a2 100000000 t275 _ A8.out).mono ?_); rintro e w' ⟨rfl, ⟨nd, rfl⟩⟩; (try first | exact ⟨rfl, _, World.drewN_drewN _ _ _⟩ | exact ⟨rfl, _, Eq.trans (World.drewN_drewN _ _ _) (congrArg (World.drewN _) (Nat.add_assoc _ _ _))⟩))))
    go_ret
    exact ⟨by first | rfl | (simp [errW_none, errW_some] <;> rfl) | (simp [*, errW_none, errW_some] <;> rfl), by repeat (first | (with_reducible first | exact HB.out | apply below_alloc | apply pw_below_drewN | apply below_drew1) | exact HB.out)⟩
   ·replace c7 := Bool.eq_false_iff.mpr c7
    subst c7
    rw [if_neg (show ¬ (false = true) by decide)] at H
    replace H := Option.bind_eq_some_iff.mp H
    obtain ⟨t276, A90, H⟩ := H
    try dsimp only at H
    have A9 := Aside0.mk A90
    clear A90
    replace H := Option.bind_eq_some_iff.mp H
    obtain ⟨t277, A100, H⟩ := H
    try dsimp only at H
    have A10 := Aside0.mk A100
    clear A100
    replace H := Option.bind_eq_some_iff.mp H
    obtain ⟨⟨t278, t279, t280⟩, A110, H⟩ := H
    try dsimp only at H
    have A11 := Aside0.mk A110
    clear A110
    replace H := Option.bind_eq_some_iff.mp H
    obtain ⟨t282, A120, H⟩ := H
    try dsimp only at H
    have A12 := Aside0.mk A120
    clear A120
    obtain rfl := Option.some.inj H
    go_wp2_with (first | (go_at_call 33; (with_reducible refine (dialtoneref12_pick.calls (wrap64 (Int.tdiv a1 16)) (l0.length : Int) t276 _ A9.out).mono ?_); rintro e w' ⟨rfl, ⟨nd, rfl⟩⟩; (try first | exact ⟨rfl, _, World.drewN_drewN _ _ _⟩ | exact ⟨rfl, _, Eq.trans (World.drewN_drewN _ _ _) (congrArg (World.drewN _) (Nat.add_assoc _ _ _))⟩)) | (go_at_call 33; (with_reducible refine (dialtoneref12_pick.calls a1 3 t277 _ A10.out).mono ?_); rintro e w' ⟨rfl, ⟨nd, rfl⟩⟩; (try first | exact ⟨rfl, _, World.drewN_drewN _ _ _⟩ | exact ⟨rfl, _, Eq.trans (World.drewN_drewN _ _ _) (congrArg (World.drewN _) (Nat.add_assoc _ _ _))⟩)) | (go_at_call 20; (with_reducible refine (dialtoneref12_Range.calls kj3 _ _ l0 t276 (wrap64 (1 + t277)) t278 t279 t280 _ ?side1 ?side2 A11.out).mono ?_); (case side1 => exact zq98); (case side2 => exact zq26); rintro e w13 ⟨rfl, hb⟩; have n0_ := Aside0.mk (below_step (zq1) hb); clear HB; have HB := n0_; clear n0_; (try clear hb); (try clear hb2); (try clear hk); (try clear hi)) | ((with_reducible refine gate_dst (N := 7) rfl ?_); refine box_event ?hg (N := 7) ?hd (cs := #[.int .i64 0, .int .i64 0]) (t := 40) ?hr ?_; (case hd => rfl); (case hg => rfl); (case hr => exact zq0); intro gb281 hg w14 hbox hb; have n0_ := Aside0.mk (below_step (zq1) hb); have n1_ := Aside0.mk (hbox); have n2_ := Aside0.mk ((zq2 : w.heap.size ≤ gb281)); have n3_ := Aside0.mk ((zq2 : w.heap.size ≤ gb281)); clear HB; have HB := n0_; have BK281 := n1_; have GW281 := n2_; have GE281 := n3_; clear n0_ n1_ n2_ n3_; clear hb hbox hg; have hcz15_0 : w14.cell? ⟨gb281, 0, none⟩ = some (.int .i64 0) := (blk_cell BK281.out 0).trans rfl; have hcz15_1 : w14.cell? ⟨gb281, 1, none⟩ = some (.int .i64 0) := (blk_cell BK281.out 1).trans rfl; have hfz15_0 := blk_frozen BK281.out 0; have hfz15_1 := blk_frozen BK281.out 1) | (go_at_call 33; (with_reducible refine (dialtoneref12_pick.calls a2 (wrap64 (t279 - t278)) t282 _ A12.out).mono ?_); rintro e w' ⟨rfl, ⟨nd, rfl⟩⟩; (try first | exact ⟨rfl, _, World.drewN_drewN _ _ _⟩ | exact ⟨rfl, _, Eq.trans (World.drewN_drewN _ _ _) (congrArg (World.drewN _) (Nat.add_assoc _ _ _))⟩)))
    repeat (go_quiet (first | (go_at_call 33; (with_reducible refine (dialtoneref12_pick.calls (wrap64 (Int.tdiv a1 16)) (l0.length : Int) t276 _ A9.out).mono ?_); rintro e w' ⟨rfl, ⟨nd, rfl⟩⟩; (try first | exact ⟨rfl, _, World.drewN_drewN _ _ _⟩ | exact ⟨rfl, _, Eq.trans (World.drewN_drewN _ _ _) (congrArg (World.drewN _) (Nat.add_assoc _ _ _))⟩)) | (go_at_call 33; (with_reducible refine (dialtoneref12_pick.calls a1 3 t277 _ A10.out).mono ?_); rintro e w' ⟨rfl, ⟨nd, rfl⟩⟩; (try first | exact ⟨rfl, _, World.drewN_drewN _ _ _⟩ | exact ⟨rfl, _, Eq.trans (World.drewN_drewN _ _ _) (congrArg (World.drewN _) (Nat.add_assoc _ _ _))⟩)) | (go_at_call 20; (with_reducible refine (dialtoneref12_Range.calls kj3 _ _ l0 t276 (wrap64 (1 + t277)) t278 t279 t280 _ ?side1 ?side2 A11.out).mono ?_); (case side1 => exact zq98); (case side2 => exact zq26); rintro e w13 ⟨rfl, hb⟩; have n0_ := Aside0.mk (below_step (zq1) hb); clear HB; have HB := n0_; clear n0_; (try clear hb); (try clear hb2); (try clear hk); (try clear hi)) | ((with_reducible refine gate_dst (N := 7) rfl ?_); refine box_event ?hg (N := 7) ?hd (cs := #[.int .i64 0, .int .i64 0]) (t := 40) ?hr ?_; (case hd => rfl); (case hg => rfl); (case hr => exact zq0); intro gb281 hg w14 hbox hb; have n0_ := Aside0.mk (below_step (zq1) hb); have n1_ := Aside0.mk (hbox); have n2_ := Aside0.mk ((zq2 : w.heap.size ≤ gb281)); have n3_ := Aside0.mk ((zq2 : w.heap.size ≤ gb281)); clear HB; have HB := n0_; have BK281 := n1_; have GW281 := n2_; have GE281 := n3_; clear n0_ n1_ n2_ n3_; clear hb hbox hg; have hcz15_0 : w14.cell? ⟨gb281, 0, none⟩ = some (.int .i64 0) := (blk_cell BK281.out 0).trans rfl; have hcz15_1 : w14.cell? ⟨gb281, 1, none⟩ = some (.int .i64 0) := (blk_cell BK281.out 1).trans rfl; have hfz15_0 := blk_frozen BK281.out 0; have hfz15_1 := blk_frozen BK281.out 1) | (go_at_call 33; (with_reducible refine (dialtoneref12_pick.calls a2 (wrap64 (t279 - t278)) t282 _ A12.out).mono ?_); rintro e w' ⟨rfl, ⟨nd, rfl⟩⟩; (try first | exact ⟨rfl, _, World.drewN_drewN _ _ _⟩ | exact ⟨rfl, _, Eq.trans (World.drewN_drewN _ _ _) (congrArg (World.drewN _) (Nat.add_assoc _ _ _))⟩))); try go_wp2_with (first | (go_at_call 33; (with_reducible refine (dialtoneref12_pick.calls (wrap64 (Int.tdiv a1 16)) (l0.length : Int) t276 _ A9.out).mono ?_); rintro e w' ⟨rfl, ⟨nd, rfl⟩⟩; (try first | exact ⟨rfl, _, World.drewN_drewN _ _ _⟩ | exact ⟨rfl, _, Eq.trans (World.drewN_drewN _ _ _) (congrArg (World.drewN _) (Nat.add_assoc _ _ _))⟩)) | (go_at_call 33; (with_reducible refine (dialtoneref12_pick.calls a1 3 t277 _ A10.out).mono ?_); rintro e w' ⟨rfl, ⟨nd, rfl⟩⟩; (try first | exact ⟨rfl, _, World.drewN_drewN _ _ _⟩ | exact ⟨rfl, _, Eq.trans (World.drewN_drewN _ _ _) (congrArg (World.drewN _) (Nat.add_assoc _ _ _))⟩)) | (go_at_call 20; (with_reducible refine (dialtoneref12_Range.calls kj3 _ _ l0 t276 (wrap64 (1 + t277)) t278 t279 t280 _ ?side1 ?side2 A11.out).mono ?_); (case side1 => exact zq98); (case side2 => exact zq26); rintro e w13 ⟨rfl, hb⟩; have n0_ := Aside0.mk (below_step (zq1) hb); clear HB; have HB := n0_; clear n0_; (try clear hb); (try clear hb2); (try clear hk); (try clear hi)) | ((with_reducible refine gate_dst (N := 7) rfl ?_); refine box_event ?hg (N := 7) ?hd (cs := #[.int .i64 0, .int .i64 0]) (t := 40) ?hr ?_; (case hd => rfl); (case hg => rfl); (case hr => exact zq0); intro gb281 hg w14 hbox hb; have n0_ := Aside0.mk (below_step (zq1) hb); have n1_ := Aside0.mk (hbox); have n2_ := Aside0.mk ((zq2 : w.heap.size ≤ gb281)); have n3_ := Aside0.mk ((zq2 : w.heap.size ≤ gb281)); clear HB; have HB := n0_; have BK281 := n1_; have GW281 := n2_; have GE281 := n3_; clear n0_ n1_ n2_ n3_; clear hb hbox hg; have hcz15_0 : w14.cell? ⟨gb281, 0, none⟩ = some (.int .i64 0) := (blk_cell BK281.out 0).trans rfl; have hcz15_1 : w14.cell? ⟨gb281, 1, none⟩ = some (.int .i64 0) := (blk_cell BK281.out 1).trans rfl; have hfz15_0 := blk_frozen BK281.out 0; have hfz15_1 := blk_frozen BK281.out 1) | (go_at_call 33; (with_reducible refine (dialtoneref12_pick.calls a2 (wrap64 (t279 - t278)) t282 _ A12.out).mono ?_); rintro e w' ⟨rfl, ⟨nd, rfl⟩⟩; (try first | exact ⟨rfl, _, World.drewN_drewN _ _ _⟩ | exact ⟨rfl, _, Eq.trans (World.drewN_drewN _ _ _) (congrArg (World.drewN _) (Nat.add_assoc _ _ _))⟩))))
    go_ret
    exact ⟨by first | rfl | (simp [errW_none, errW_some] <;> rfl) | (simp [*, errW_none, errW_some] <;> rfl), by repeat (first | (with_reducible first | exact HB.out | apply below_alloc | apply pw_below_drewN | apply below_drew1 | refine below_set ?_ GE281.out) | exact HB.out)⟩
end Go.Proofs.YtlmfoblgheepoaaGreatDoor.Pl
end
section
open Go.Proofs.YtlmfoblgheepoaaGreatDoor.Z
namespace Go.Proofs.YtlmfoblgheepoaaGreatDoor.Pl
open Go.RowKit Go.Proofs.YtlmfoblgheepoaaGreatDoorW.PrintWords Go.Proofs.YtlmfoblgheepoaaGreatDoorW.PrintLast Go.Proofs.YtlmfoblgheepoaaGreatDoorW.PrintMore
attribute [local go_sem] max2_int min2_int max_two min_two max_three min_three max_four min_four
set_option linter.unusedVariables false
set_option linter.unusedSimpArgs false
def dialtonelaw12_pick.f (a0 : Int) (a1 : Int) : Option (Int) := if a0 < 0 then (if a1 = 0 then (none) else (some (Int.tmod (wrap64 (-(wrap64 (a0 + 1)))) a1))) else (if a1 = 0 then (none) else (some (Int.tmod a0 a1)))
set_option maxHeartbeats 8000000 in
set_option maxRecDepth 100000 in
theorem dialtonelaw12_pick.calls (a0 : Int) (a1 : Int) (r : Int) (w : World) (h : dialtonelaw12_pick.f a0 a1 = some r) :
 Calls Tryz.prog 16 #[.int .i64 a0, .int .i64 a1] w fun e w' => e = .returned (.int .i64 r) ∧ Drawn0 w w' := by
 have H : (if a0 < 0 then (if a1 = 0 then (none) else (some (Int.tmod (wrap64 (-(wrap64 (a0 + 1)))) a1))) else (if a1 = 0 then (none) else (some (Int.tmod a0 a1)))) = some r := h
 clear h
 by_cases c3 : a0 < 0
 ·rw [if_pos c3] at H
  have c3b0 : decide (a0 < 0) = true := decide_eq_true c3
  clear c3
  by_cases c4 : a1 = 0
  ·rw [if_pos c4] at H
   exact absurd H (by simp)
  ·rw [if_neg c4] at H
   have c4b0 : (a1 == 0) = false := beq_eq_false_iff_ne.mpr c4
   have c4b1 : (a1 != 0) = true := bne_iff_ne.mpr c4
   obtain rfl := Option.some.inj H
   go_enter Tryz.func16, Tryz.ntmps16
   go_wp2
   go_ret
   exact ⟨by first | rfl | (simp; done) | (simp [*]; done), by repeat (first | exact Drawn0.refl _ | apply Drawn0.step)⟩
 ·rw [if_neg c3] at H
  have c3b0 : decide (a0 < 0) = false := decide_eq_false c3
  clear c3
  by_cases c5 : a1 = 0
  ·rw [if_pos c5] at H
   exact absurd H (by simp)
  ·rw [if_neg c5] at H
   have c5b0 : (a1 == 0) = false := beq_eq_false_iff_ne.mpr c5
   have c5b1 : (a1 != 0) = true := bne_iff_ne.mpr c5
   obtain rfl := Option.some.inj H
   go_enter Tryz.func16, Tryz.ntmps16
   go_wp2
   go_ret
   exact ⟨by first | rfl | (simp; done) | (simp [*]; done), by repeat (first | exact Drawn0.refl _ | apply Drawn0.step)⟩
end Go.Proofs.YtlmfoblgheepoaaGreatDoor.Pl
end
section
open Go.Proofs.YtlmfoblgheepoaaGreatDoor.Z
namespace Go.Proofs.YtlmfoblgheepoaaGreatDoor.Pl
open Go.RowKit Go.Proofs.YtlmfoblgheepoaaGreatDoorW.PrintWords Go.Proofs.YtlmfoblgheepoaaGreatDoorW.PrintLast Go.Proofs.YtlmfoblgheepoaaGreatDoorW.PrintMore
attribute [local go_sem] max2_int min2_int max_two min_two max_three min_three max_four min_four
set_option linter.unusedVariables false
set_option linter.unusedSimpArgs false
def dialtonelaw12_begins.f (a0 : ByteArray) (a1 : ByteArray) : Option (Bool) := if (a0.size : Int) ≤ (a1.size : Int) then (if 0 ≤ (a0.size : Int) then (some ((a1.extract 0 ((a0.size : Int) : Int).toNat).toList == a0.toList)) else (none)) else (some false)
set_option maxHeartbeats 8000000 in
set_option maxRecDepth 100000 in
theorem dialtonelaw12_begins.calls (a0 : ByteArray) (a1 : ByteArray) (r : Bool) (w : World) (h : dialtonelaw12_begins.f a0 a1 = some r) :
 Calls Tryz.prog 27 #[.string a0, .string a1] w fun e w' => e = .returned (.bool r) ∧ Drawn0 w w' := by
 have H : (if (a0.size : Int) ≤ (a1.size : Int) then (if 0 ≤ (a0.size : Int) then (some ((a1.extract 0 ((a0.size : Int) : Int).toNat).toList == a0.toList)) else (none)) else (some false)) = some r := h
 clear h
 by_cases c3 : (a0.size : Int) ≤ (a1.size : Int)
 ·rw [if_pos c3] at H
  have c3b0 : decide ((a0.size : Int) ≤ (a1.size : Int)) = true := decide_eq_true c3
  have c3b1 : decide (a0.size ≤ a1.size) = true := decide_eq_true (Int.ofNat_le.mp c3)
  clear c3
  by_cases c4 : 0 ≤ (a0.size : Int)
  ·rw [if_pos c4] at H
   have c4b0 := eq_true c4
   have c4b1 : decide (0 ≤ (a0.size : Int)) = true := decide_eq_true c4
   clear c4
   have c5b0 := eq_true (of_decide_eq_true (zq14) : (a0.size : Int) ≤ (a1.size : Int))
   obtain rfl := Option.some.inj H
   go_enter Tryz.func27, Tryz.ntmps27
   go_wp2
   go_ret
   exact ⟨by first | rfl | (simp; done) | (simp [*]; done), by repeat (first | exact Drawn0.refl _ | apply Drawn0.step)⟩
  ·rw [if_neg c4] at H
   exact absurd H (by simp)
 ·rw [if_neg c3] at H
  have c3b0 : decide ((a0.size : Int) ≤ (a1.size : Int)) = false := decide_eq_false c3
  have c3b1 : decide (a0.size ≤ a1.size) = false := decide_eq_false (fun h => c3 (Int.ofNat_le.mpr h))
  clear c3
  obtain rfl := Option.some.inj H
  go_enter Tryz.func27, Tryz.ntmps27
  go_wp2
  go_ret
  exact ⟨by first | rfl | (simp; done) | (simp [*]; done), by repeat (first | exact Drawn0.refl _ | apply Drawn0.step)⟩
mutual
def dialtonelaw12_PlanUnique.j0 : Nat → Int → Int → Int → Int → ByteArray → Int → ByteArray → Int → Bool → Option (Bool)
 | 0, _, _, _, _, _, _, _, _, _ => none
 | k + 1, x13, x14, x15, x16, x17, x18, x19, x20, x63 => if x63 = true then (if x18 = 0 then (if x20 = 0 then (some true) else (if x20 = 120 then (some (x19.toList == ([] : List UInt8))) else (some false))) else (if x18 = 120 then (if x17.toList = ([] : List UInt8) then (if x20 = 0 then (some true) else (if x20 = 120 then (some (x19.toList == ([] : List UInt8))) else (some false))) else (some false)) else (some false))) else (if x13 = x14 then (dialtonelaw12_PlanUnique.j1 k x17 x19 ((x15 == 1) == (x16 == 1))) else (dialtonelaw12_PlanUnique.j1 k x17 x19 false))
def dialtonelaw12_PlanUnique.j1 : Nat → ByteArray → ByteArray → Bool → Option (Bool)
 | 0, _, _, _ => none
 | k + 1, x17, x19, x95 => if x95 = true then (some (x17.toList == x19.toList)) else ((dialtonelaw12_begins.f x17 x19).bind fun t445 => (if t445 = true then (some false) else ((dialtonelaw12_begins.f x19 x17).bind fun t446 => (some (!t446)))))
end
def dialtonelaw12_PlanUnique.f (k : Nat) (l0 : List (S23)) (a1_0 : Int) (a1_1 : Int) (a2_0 : Int) (a2_1 : Int) (a3 : Int) (a4 : Int) : Option (Bool) := (dialtonelaw12_sane.f k).bind fun t433 => (if t433 = true then ((dialtoneref12_Made.f k l0).bind fun t434 => ((dialtoneref12_Number.f k t434 a1_0 a1_1).bind fun t437 => ((dialtoneref12_Number.f k t434 a2_0 a2_1).bind fun t438 => ((dialtonelaw12_pick.f a3 3).bind fun t439 => ((dialtonelaw12_pick.f a4 3).bind fun t440 => ((plan_Write.f k t434 t437 (wrap64 (1 + t439))).bind fun bt441 => ((plan_Write.f k t434 t438 (wrap64 (1 + t440))).bind fun bt443 => (if bt441.2 = 0 then (dialtonelaw12_PlanUnique.j0 k t437 t438 (wrap64 (1 + t439)) (wrap64 (1 + t440)) bt441.1 bt441.2 bt443.1 bt443.2 (bt443.2 != 0)) else (dialtonelaw12_PlanUnique.j0 k t437 t438 (wrap64 (1 + t439)) (wrap64 (1 + t440)) bt441.1 bt441.2 bt443.1 bt443.2 true))))))))) else (some false))
set_option maxHeartbeats 8000000 in
set_option maxRecDepth 100000 in
theorem dialtonelaw12_PlanUnique.calls (k : Nat) (A0 : Option Addr) (c0 : Nat) (l0 : List (S23)) (a1_0 : Int) (a1_1 : Int) (a2_0 : Int) (a2_1 : Int) (a3 : Int) (a4 : Int) (r : Bool) (w : World) (hr0 : Kd.C k23 w A0 l0.length l0) (hc0 : l0.length ≤ c0) (hG : Glb w) (h : dialtonelaw12_PlanUnique.f k l0 a1_0 a1_1 a2_0 a2_1 a3 a4 = some r) :
 Calls Tryz.prog 4 #[.slice A0 l0.length c0, .agg #[.int .i64 a1_0, .int .i64 a1_1], .agg #[.int .i64 a2_0, .int .i64 a2_1], .int .i64 a3, .int .i64 a4] w fun e w' => e = .returned (.bool r) ∧ Below w.heap.size w w' := by
 have HGLB := Aside0.mk hG
 clear hG
 have hu50 := Tryz.underlying50
 have HR0 := Aside0.mk hr0
 have HC0 := Aside0.mk hc0
 clear hr0 hc0
 have HB := Aside0.mk (Below.refl w.heap.size w)
 have H : ((dialtonelaw12_sane.f k).bind fun t433 => (if t433 = true then ((dialtoneref12_Made.f k l0).bind fun t434 => ((dialtoneref12_Number.f k t434 a1_0 a1_1).bind fun t437 => ((dialtoneref12_Number.f k t434 a2_0 a2_1).bind fun t438 => ((dialtonelaw12_pick.f a3 3).bind fun t439 => ((dialtonelaw12_pick.f a4 3).bind fun t440 => ((plan_Write.f k t434 t437 (wrap64 (1 + t439))).bind fun bt441 => ((plan_Write.f k t434 t438 (wrap64 (1 + t440))).bind fun bt443 => (if bt441.2 = 0 then (dialtonelaw12_PlanUnique.j0 k t437 t438 (wrap64 (1 + t439)) (wrap64 (1 + t440)) bt441.1 bt441.2 bt443.1 bt443.2 (bt443.2 != 0)) else (dialtonelaw12_PlanUnique.j0 k t437 t438 (wrap64 (1 + t439)) (wrap64 (1 + t440)) bt441.1 bt441.2 bt443.1 bt443.2 true))))))))) else (some false))) = some r := h
 clear h
 replace H := Option.bind_eq_some_iff.mp H
 obtain ⟨t433, A60, H⟩ := H
 try dsimp only at H
 have A6 := Aside0.mk A60
 clear A60
 by_cases c7 : t433 = true
 ·subst c7
  rw [if_pos rfl] at H
  replace H := Option.bind_eq_some_iff.mp H
  obtain ⟨t434, A80, H⟩ := H
  try dsimp only at H
  have A8 := Aside0.mk A80
  clear A80
  replace H := Option.bind_eq_some_iff.mp H
  obtain ⟨t437, A90, H⟩ := H
  try dsimp only at H
  have A9 := Aside0.mk A90
  clear A90
  replace H := Option.bind_eq_some_iff.mp H
  obtain ⟨t438, A100, H⟩ := H
  try dsimp only at H
  have A10 := Aside0.mk A100
  clear A100
  replace H := Option.bind_eq_some_iff.mp H
  obtain ⟨t439, A110, H⟩ := H
  try dsimp only at H
  have A11 := Aside0.mk A110
  clear A110
  replace H := Option.bind_eq_some_iff.mp H
  obtain ⟨t440, A120, H⟩ := H
  try dsimp only at H
  have A12 := Aside0.mk A120
  clear A120
  replace H := Option.bind_eq_some_iff.mp H
  obtain ⟨⟨t441, t442⟩, A130, H⟩ := H
  try dsimp only at H
  have A13 := Aside0.mk A130
  clear A130
  replace H := Option.bind_eq_some_iff.mp H
  obtain ⟨⟨t443, t444⟩, A140, H⟩ := H
  try dsimp only at H
  have A14 := Aside0.mk A140
  clear A140
  have HC15 := Aside0.mk H
  clear H
  go_enter Tryz.func4, Tryz.ntmps4
  go_upto_region 11 with (first | ((with_reducible refine gate_dst (N := 6) rfl ?_); refine box_event ?hg (N := 6) ?hd (cs := #[.int .i64 a1_0, .int .i64 a1_1]) (t := 50) ?hr ?_; (case hd => rfl); (case hg => rfl); (case hr => exact zq0); intro gb431 hg w16 hbox hb; have n0_ := Aside0.mk (below_step (zq1) hb); have n1_ := Aside0.mk (hbox); have n2_ := Aside0.mk ((zq2 : w.heap.size ≤ gb431)); have n3_ := Aside0.mk ((zq2 : w.heap.size ≤ gb431)); clear HB; have HB := n0_; have BK431 := n1_; have GW431 := n2_; have GE431 := n3_; clear n0_ n1_ n2_ n3_; clear hb hbox hg) | ((with_reducible refine gate_dst (N := 7) rfl ?_); refine box_event ?hg (N := 7) ?hd (cs := #[.int .i64 a2_0, .int .i64 a2_1]) (t := 50) ?hr ?_; (case hd => rfl); (case hg => rfl); (case hr => exact zq0); intro gb432 hg w17 hbox hb; have n0_ := Aside0.mk (blk_below (g := gb431) (o := .cells #[.int .i64 a1_0, .int .i64 a1_1] 50 (0, 0)) (zq99) hb); have n1_ := Aside0.mk (below_step (zq100) hb); have n2_ := Aside0.mk (hbox); have n3_ := Aside0.mk ((zq101 : w.heap.size ≤ gb432)); have n4_ := Aside0.mk ((zq101 : w.heap.size ≤ gb432)); have n5_ := Aside0.mk ((zq102 : gb431 ≠ gb432)); have n6_ := Aside0.mk ((zq103 : gb432 ≠ gb431)); clear BK431; clear HB; have BK431 := n0_; have HB := n1_; have BK432 := n2_; have GW432 := n3_; have GE432 := n4_; have NB431_432 := n5_; have NB432_431 := n6_; clear n0_ n1_ n2_ n3_ n4_ n5_ n6_; clear hb hbox hg) | ((with_reducible refine gate_callee (f := 11) rfl ?_); refine goesL_ (some 21) rfl rfl Tryz.func11 (by kernel_rfl) rfl #[] rfl (zq3) ?_; (with_reducible refine (dialtonelaw12_sane.calls k  true _ ?side1 A6.out).mono ?_); (case side1 => exact zq104); rintro e w18 ⟨rfl, hb⟩; refine ⟨_, rfl, ?_⟩; have n0_ := Aside0.mk (blk_below (g := gb431) (o := .cells #[.int .i64 a1_0, .int .i64 a1_1] 50 (0, 0)) (zq99) hb); have n1_ := Aside0.mk (blk_below (g := gb432) (o := .cells #[.int .i64 a2_0, .int .i64 a2_1] 50 (0, 0)) (zq106) hb); have n2_ := Aside0.mk (below_step (zq105) hb); clear BK431; clear BK432; clear HB; have BK431 := n0_; have BK432 := n1_; have HB := n2_; clear n0_ n1_ n2_; (try clear hb); (try clear hb2); (try clear hk); (try clear hi)) | ((with_reducible refine gate_callee (f := 12) rfl ?_); refine goesL_ (some 25) rfl rfl Tryz.func12 (by kernel_rfl) rfl #[.slice A0 l0.length c0] rfl (zq3) ?_; (with_reducible refine (dialtoneref12_Made.calls k _ _ l0 t434 _ ?side1 ?side2 A8.out).mono ?_); (case side1 => exact zq25); (case side2 => exact zq26); rintro e w19 ⟨v435, rfl, ho0, hb⟩; refine ⟨_, rfl, ?_⟩; have n0_ := Aside0.mk (Kd.R_lower ho0 (below_size (zq105))); have n1_ := Aside0.mk (blk_below (g := gb431) (o := .cells #[.int .i64 a1_0, .int .i64 a1_1] 50 (0, 0)) (zq99) hb); have n2_ := Aside0.mk (blk_below (g := gb432) (o := .cells #[.int .i64 a2_0, .int .i64 a2_1] 50 (0, 0)) (zq106) hb); have n3_ := Aside0.mk (below_step (zq105) hb); clear BK431; clear BK432; clear HB; have HO436 := n0_; have BK431 := n1_; have BK432 := n2_; have HB := n3_; clear n0_ n1_ n2_ n3_; (try clear hb); (try clear hb2); (try clear hk); (try clear hi); (try clear ho0); have hnb20 := NB431_432.out; have hnc20 := NB432_431.out; have hcz21_0 : w19.cell? ⟨gb431, 0, none⟩ = some (.int .i64 a1_0) := (blk_cell BK431.out 0).trans rfl; have hcz21_1 : w19.cell? ⟨gb431, 1, none⟩ = some (.int .i64 a1_1) := (blk_cell BK431.out 1).trans rfl; have hfz21_0 := blk_frozen BK431.out 0; have hfz21_1 := blk_frozen BK431.out 1; obtain ⟨Ao22, co22, eo22⟩ := Kd.R_slice HO436.out; subst eo22) | ((with_reducible refine gate_callee (f := 13) rfl ?_); refine goesL_ (some 31) rfl rfl Tryz.func13 (by kernel_rfl) rfl #[.slice Ao22 t434.length co22, .int .i64 a1_0, .int .i64 a1_1] rfl (zq3) ?_; (with_reducible refine (dialtoneref12_Number.calls k _ _ t434 a1_0 a1_1 t437 _ ?side1 ?side2 A9.out).mono ?_); (case side1 => exact zq107); (case side2 => exact zq108); rintro e w23 ⟨rfl, hb⟩; refine ⟨_, rfl, ?_⟩; have n0_ := Aside0.mk (Kd.R_below (zq109) hb); have n1_ := Aside0.mk (blk_below (g := gb431) (o := .cells #[.int .i64 a1_0, .int .i64 a1_1] 50 (0, 0)) (zq99) hb); have n2_ := Aside0.mk (blk_below (g := gb432) (o := .cells #[.int .i64 a2_0, .int .i64 a2_1] 50 (0, 0)) (zq106) hb); have n3_ := Aside0.mk (below_step (zq105) hb); clear HO436; clear BK431; clear BK432; clear HB; have HO436 := n0_; have BK431 := n1_; have BK432 := n2_; have HB := n3_; clear n0_ n1_ n2_ n3_; (try clear hb); (try clear hb2); (try clear hk); (try clear hi); have hcz24_0 : w23.cell? ⟨gb432, 0, none⟩ = some (.int .i64 a2_0) := (blk_cell BK432.out 0).trans rfl; have hcz24_1 : w23.cell? ⟨gb432, 1, none⟩ = some (.int .i64 a2_1) := (blk_cell BK432.out 1).trans rfl; have hfz24_0 := blk_frozen BK432.out 0; have hfz24_1 := blk_frozen BK432.out 1) | ((with_reducible refine gate_callee (f := 13) rfl ?_); refine goesL_ (some 37) rfl rfl Tryz.func13 (by kernel_rfl) rfl #[.slice Ao22 t434.length co22, .int .i64 a2_0, .int .i64 a2_1] rfl (zq3) ?_; (with_reducible refine (dialtoneref12_Number.calls k _ _ t434 a2_0 a2_1 t438 _ ?side1 ?side2 A10.out).mono ?_); (case side1 => exact zq107); (case side2 => exact zq108); rintro e w25 ⟨rfl, hb⟩; refine ⟨_, rfl, ?_⟩; have n0_ := Aside0.mk (Kd.R_below (zq109) hb); have n1_ := Aside0.mk (blk_below (g := gb431) (o := .cells #[.int .i64 a1_0, .int .i64 a1_1] 50 (0, 0)) (zq99) hb); have n2_ := Aside0.mk (blk_below (g := gb432) (o := .cells #[.int .i64 a2_0, .int .i64 a2_1] 50 (0, 0)) (zq106) hb); have n3_ := Aside0.mk (below_step (zq105) hb); clear HO436; clear BK431; clear BK432; clear HB; have HO436 := n0_; have BK431 := n1_; have BK432 := n2_; have HB := n3_; clear n0_ n1_ n2_ n3_; (try clear hb); (try clear hb2); (try clear hk); (try clear hi)) | ((with_reducible refine gate_callee (f := 16) rfl ?_); refine goesL_ (some 39) rfl rfl Tryz.func16 (by kernel_rfl) rfl #[.int .i64 a3, .int .i64 3] rfl (zq3) ?_; (with_reducible refine (dialtonelaw12_pick.calls a3 3 t439 _ A11.out).mono ?_); rintro e w' ⟨rfl, ⟨nd, rfl⟩⟩; refine ⟨_, rfl, ?_⟩) | ((with_reducible refine gate_callee (f := 16) rfl ?_); refine goesL_ (some 42) rfl rfl Tryz.func16 (by kernel_rfl) rfl #[.int .i64 a4, .int .i64 3] rfl (zq3) ?_; (with_reducible refine (dialtonelaw12_pick.calls a4 3 t440 _ A12.out).mono ?_); rintro e w' ⟨rfl, ⟨nd, rfl⟩⟩; refine ⟨_, rfl, ?_⟩) | ((with_reducible refine gate_callee (f := 17) rfl ?_); refine goesL_ (some 48) rfl rfl Tryz.func17 (by kernel_rfl) rfl #[.slice Ao22 t434.length co22, .int .i64 t437, .int .i64 (wrap64 (1 + t439))] rfl (zq3) ?_; (with_reducible refine (plan_Write.calls k _ _ t434 t437 (wrap64 (1 + t439)) t441 t442 _ ?side1 ?side2 ?side3 A13.out).mono ?_); (case side1 => exact zq107); (case side2 => exact zq108); (case side3 => exact zq104); rintro e w26 ⟨rfl, hb⟩; refine ⟨_, rfl, ?_⟩; have n0_ := Aside0.mk (Kd.R_below (zq109) hb); have n1_ := Aside0.mk (blk_below (g := gb431) (o := .cells #[.int .i64 a1_0, .int .i64 a1_1] 50 (0, 0)) (zq99) hb); have n2_ := Aside0.mk (blk_below (g := gb432) (o := .cells #[.int .i64 a2_0, .int .i64 a2_1] 50 (0, 0)) (zq106) hb); have n3_ := Aside0.mk (below_step (zq105) hb); clear HO436; clear BK431; clear BK432; clear HB; have HO436 := n0_; have BK431 := n1_; have BK432 := n2_; have HB := n3_; clear n0_ n1_ n2_ n3_; (try clear hb); (try clear hb2); (try clear hk); (try clear hi)) | ((with_reducible refine gate_callee (f := 17) rfl ?_); refine goesL_ (some 55) rfl rfl Tryz.func17 (by kernel_rfl) rfl #[.slice Ao22 t434.length co22, .int .i64 t438, .int .i64 (wrap64 (1 + t440))] rfl (zq3) ?_; (with_reducible refine (plan_Write.calls k _ _ t434 t438 (wrap64 (1 + t440)) t443 t444 _ ?side1 ?side2 ?side3 A14.out).mono ?_); (case side1 => exact zq107); (case side2 => exact zq108); (case side3 => exact zq104); rintro e w27 ⟨rfl, hb⟩; refine ⟨_, rfl, ?_⟩; have n0_ := Aside0.mk (Kd.R_below (zq109) hb); have n1_ := Aside0.mk (blk_below (g := gb431) (o := .cells #[.int .i64 a1_0, .int .i64 a1_1] 50 (0, 0)) (zq99) hb); have n2_ := Aside0.mk (blk_below (g := gb432) (o := .cells #[.int .i64 a2_0, .int .i64 a2_1] 50 (0, 0)) (zq106) hb); have n3_ := Aside0.mk (below_step (zq105) hb); clear HO436; clear BK431; clear BK432; clear HB; have HO436 := n0_; have BK431 := n1_; have BK432 := n2_; have HB := n3_; clear n0_ n1_ n2_ n3_; (try clear hb); (try clear hb2); (try clear hk); (try clear hi)))
  (try simp only [Act.put, List.setIfInBounds_toArray, List.set_cons_zero, List.set_cons_succ])
  go_cut [63] (fun v63 wc => ∃ (kq : Nat) (x63_14 : Bool), v63 = .bool x63_14 ∧ Aside0 (dialtonelaw12_PlanUnique.j0 kq t437 t438 (wrap64 (1 + t439)) (wrap64 (1 + t440)) t441 t442 t443 t444 x63_14 = some r) ∧ Aside0 (kq ≤ k) ∧ Aside0 (wc.heap[gb431]? = some (.cells #[.int .i64 a1_0, .int .i64 a1_1] 50 (0, 0))) ∧ Aside0 (wc.heap[gb432]? = some (.cells #[.int .i64 a2_0, .int .i64 a2_1] 50 (0, 0))) ∧ Aside0 (Below w.heap.size w wc))
  case first =>
   have H := HC15.out
   clear HC15
   by_cases c28 : t442 = 0
   ·rw [if_pos c28] at H
    have c28b0 : (t442 == 0) = true := beq_iff_eq.mpr c28
    have c28b1 : (t442 != 0) = false := bne_eq_false_iff_eq.mpr c28
    clear c28
    (first | rw [c28b0] | (simp only [i64_w, i32_w]; rw [c28b0]) | skip)
    have H' := Aside0.mk H
    clear H
    go_wp2
    go_meet
    case rel => exact ⟨_, ((t444 != 0)), (zq6), H', ⟨by first | omega | exact Nat.le_refl _⟩, ⟨by (with_reducible repeat (first | refine blk_drewN ?_ _ | refine blk_drew ?_ | refine blk_alloc ?_ _)); exact BK431.out⟩, ⟨by (with_reducible repeat (first | refine blk_drewN ?_ _ | refine blk_drew ?_ | refine blk_alloc ?_ _)); exact BK432.out⟩, ⟨by repeat (first | (with_reducible first | exact HB.out | apply below_alloc | apply pw_below_drewN | apply below_drew1 | refine below_set ?_ GE431.out | refine below_set ?_ GE432.out) | exact HB.out)⟩⟩
   ·rw [if_neg c28] at H
    have c28b0 : (t442 == 0) = false := beq_eq_false_iff_ne.mpr c28
    have c28b1 : (t442 != 0) = true := bne_iff_ne.mpr c28
    (first | rw [c28b0] | (simp only [i64_w, i32_w]; rw [c28b0]) | skip)
    have H' := Aside0.mk H
    clear H
    go_wp2
    go_meet
    case rel => exact ⟨_, (true), (zq6), H', ⟨by first | omega | exact Nat.le_refl _⟩, ⟨by (with_reducible repeat (first | refine blk_drewN ?_ _ | refine blk_drew ?_ | refine blk_alloc ?_ _)); exact BK431.out⟩, ⟨by (with_reducible repeat (first | refine blk_drewN ?_ _ | refine blk_drew ?_ | refine blk_alloc ?_ _)); exact BK432.out⟩, ⟨by repeat (first | (with_reducible first | exact HB.out | apply below_alloc | apply pw_below_drewN | apply below_drew1 | refine below_set ?_ GE431.out | refine below_set ?_ GE432.out) | exact HB.out)⟩⟩
  case rest =>
   clear HC15
   try clear c1
   try clear c2
   try clear p2
   try clear c4
   try clear p6
   try clear c7
   try clear c11
   try clear c12
   try clear c13
   try clear c16
   try clear c17
   try clear c20
   try clear c28
   try clear c28b0
   try clear c28b1
   try clear hcz21_0
   try clear hcz21_1
   try clear hcz24_0
   try clear hcz24_1
   try clear hfz21_0
   try clear hfz21_1
   try clear hfz24_0
   try clear hfz24_1
   obtain ⟨kq, x63_14, rfl, HA, HJ14, BK431, BK432, HB⟩ := hcut
   cases kq with
   | zero => exact absurd HA.out (by simp [dialtonelaw12_PlanUnique.j0])
   | succ kj14 =>
    have H := HA.out
    clear HA
    simp only [dialtonelaw12_PlanUnique.j0] at H
    by_cases c29 : x63_14 = true
    ·subst c29
     rw [if_pos rfl] at H
     by_cases c30 : t442 = 0
     ·rw [if_pos c30] at H
      have c30b0 : (t442 == 0) = true := beq_iff_eq.mpr c30
      have c30b1 : (t442 != 0) = false := bne_eq_false_iff_eq.mpr c30
      clear c30
      by_cases c31 : t444 = 0
      ·rw [if_pos c31] at H
       have c31b0 : (t444 == 0) = true := beq_iff_eq.mpr c31
       have c31b1 : (t444 != 0) = false := bne_eq_false_iff_eq.mpr c31
       clear c31
       obtain rfl := Option.some.inj H
       go_wp2
       go_ret
       exact ⟨by first | rfl | (simp [errW_none, errW_some] <;> rfl) | (simp [*, errW_none, errW_some] <;> rfl), by repeat (first | (with_reducible first | exact HB.out | apply below_alloc | apply pw_below_drewN | apply below_drew1 | refine below_set ?_ GE431.out | refine below_set ?_ GE432.out) | exact HB.out)⟩
      ·rw [if_neg c31] at H
       have c31b0 : (t444 == 0) = false := beq_eq_false_iff_ne.mpr c31
       have c31b1 : (t444 != 0) = true := bne_iff_ne.mpr c31
       by_cases c32 : t444 = 120
       ·rw [if_pos c32] at H
        have c32b0 : (t444 == 120) = true := beq_iff_eq.mpr c32
        have c32b1 : (t444 != 120) = false := bne_eq_false_iff_eq.mpr c32
        clear c32
        obtain rfl := Option.some.inj H
        go_wp2
        go_ret
        exact ⟨by first | rfl | (simp [errW_none, errW_some] <;> rfl) | (simp [*, errW_none, errW_some] <;> rfl), by repeat (first | (with_reducible first | exact HB.out | apply below_alloc | apply pw_below_drewN | apply below_drew1 | refine below_set ?_ GE431.out | refine below_set ?_ GE432.out) | exact HB.out)⟩
       ·rw [if_neg c32] at H
        have c32b0 : (t444 == 120) = false := beq_eq_false_iff_ne.mpr c32
        have c32b1 : (t444 != 120) = true := bne_iff_ne.mpr c32
        obtain rfl := Option.some.inj H
        go_wp2
        go_ret
        exact ⟨by first | rfl | (simp [errW_none, errW_some] <;> rfl) | (simp [*, errW_none, errW_some] <;> rfl), by repeat (first | (with_reducible first | exact HB.out | apply below_alloc | apply pw_below_drewN | apply below_drew1 | refine below_set ?_ GE431.out | refine below_set ?_ GE432.out) | exact HB.out)⟩
     ·rw [if_neg c30] at H
      have c30b0 : (t442 == 0) = false := beq_eq_false_iff_ne.mpr c30
      have c30b1 : (t442 != 0) = true := bne_iff_ne.mpr c30
      by_cases c33 : t442 = 120
      ·rw [if_pos c33] at H
       have c33b0 : (t442 == 120) = true := beq_iff_eq.mpr c33
       have c33b1 : (t442 != 120) = false := bne_eq_false_iff_eq.mpr c33
       clear c33
       by_cases c34 : t441.toList = ([] : List UInt8)
       ·rw [if_pos c34] at H
        have c34b0 : (t441.toList == ([] : List UInt8)) = true := beq_iff_eq.mpr c34
        have c34b1 : (t441.toList != ([] : List UInt8)) = false := bne_eq_false_iff_eq.mpr c34
        clear c34
        by_cases c35 : t444 = 0
        ·rw [if_pos c35] at H
         have c35b0 : (t444 == 0) = true := beq_iff_eq.mpr c35
         have c35b1 : (t444 != 0) = false := bne_eq_false_iff_eq.mpr c35
         clear c35
         obtain rfl := Option.some.inj H
         go_wp2
         go_ret
         exact ⟨by first | rfl | (simp [errW_none, errW_some] <;> rfl) | (simp [*, errW_none, errW_some] <;> rfl), by repeat (first | (with_reducible first | exact HB.out | apply below_alloc | apply pw_below_drewN | apply below_drew1 | refine below_set ?_ GE431.out | refine below_set ?_ GE432.out) | exact HB.out)⟩
        ·rw [if_neg c35] at H
         have c35b0 : (t444 == 0) = false := beq_eq_false_iff_ne.mpr c35
         have c35b1 : (t444 != 0) = true := bne_iff_ne.mpr c35
         by_cases c36 : t444 = 120
         ·rw [if_pos c36] at H
          have c36b0 : (t444 == 120) = true := beq_iff_eq.mpr c36
          have c36b1 : (t444 != 120) = false := bne_eq_false_iff_eq.mpr c36
          clear c36
          obtain rfl := Option.some.inj H
          go_wp2
          go_ret
          exact ⟨by first | rfl | (simp [errW_none, errW_some] <;> rfl) | (simp [*, errW_none, errW_some] <;> rfl), by repeat (first | (with_reducible first | exact HB.out | apply below_alloc | apply pw_below_drewN | apply below_drew1 | refine below_set ?_ GE431.out | refine below_set ?_ GE432.out) | exact HB.out)⟩
         ·rw [if_neg c36] at H
          have c36b0 : (t444 == 120) = false := beq_eq_false_iff_ne.mpr c36
          have c36b1 : (t444 != 120) = true := bne_iff_ne.mpr c36
          obtain rfl := Option.some.inj H
          go_wp2
          go_ret
          exact ⟨by first | rfl | (simp [errW_none, errW_some] <;> rfl) | (simp [*, errW_none, errW_some] <;> rfl), by repeat (first | (with_reducible first | exact HB.out | apply below_alloc | apply pw_below_drewN | apply below_drew1 | refine below_set ?_ GE431.out | refine below_set ?_ GE432.out) | exact HB.out)⟩
       ·rw [if_neg c34] at H
        have c34b0 : (t441.toList == ([] : List UInt8)) = false := beq_eq_false_iff_ne.mpr c34
        have c34b1 : (t441.toList != ([] : List UInt8)) = true := bne_iff_ne.mpr c34
        obtain rfl := Option.some.inj H
        go_wp2
        go_ret
        exact ⟨by first | rfl | (simp [errW_none, errW_some] <;> rfl) | (simp [*, errW_none, errW_some] <;> rfl), by repeat (first | (with_reducible first | exact HB.out | apply below_alloc | apply pw_below_drewN | apply below_drew1 | refine below_set ?_ GE431.out | refine below_set ?_ GE432.out) | exact HB.out)⟩
      ·rw [if_neg c33] at H
       have c33b0 : (t442 == 120) = false := beq_eq_false_iff_ne.mpr c33
       have c33b1 : (t442 != 120) = true := bne_iff_ne.mpr c33
       obtain rfl := Option.some.inj H
       go_wp2
       go_ret
       exact ⟨by first | rfl | (simp [errW_none, errW_some] <;> rfl) | (simp [*, errW_none, errW_some] <;> rfl), by repeat (first | (with_reducible first | exact HB.out | apply below_alloc | apply pw_below_drewN | apply below_drew1 | refine below_set ?_ GE431.out | refine below_set ?_ GE432.out) | exact HB.out)⟩
    ·replace c29 := Bool.eq_false_iff.mpr c29
     subst c29
     rw [if_neg (show ¬ (false = true) by decide)] at H
     have HC37 := Aside0.mk H
     clear H
     go_upto_region 13 with (fail)
     go_cut [95] (fun v95 wc => ∃ (kq : Nat) (x95_36 : Bool), v95 = .bool x95_36 ∧ Aside0 (dialtonelaw12_PlanUnique.j1 kq t441 t443 x95_36 = some r) ∧ Aside0 (kq ≤ kj14) ∧ Aside0 (wc.heap[gb431]? = some (.cells #[.int .i64 a1_0, .int .i64 a1_1] 50 (0, 0))) ∧ Aside0 (wc.heap[gb432]? = some (.cells #[.int .i64 a2_0, .int .i64 a2_1] 50 (0, 0))) ∧ Aside0 (Below w.heap.size w wc))
     case first =>
      have H := HC37.out
      clear HC37
      by_cases c38 : t437 = t438
      ·rw [if_pos c38] at H
       have c38b0 : (t437 == t438) = true := beq_iff_eq.mpr c38
       have c38b1 : (t437 != t438) = false := bne_eq_false_iff_eq.mpr c38
       clear c38
       (first | rw [c38b0] | (simp only [i64_w, i32_w]; rw [c38b0]) | skip)
       have H' := Aside0.mk H
       clear H
       go_wp2
       go_meet
       case rel => exact ⟨_, ((((wrap64 (1 + t439)) == 1) == ((wrap64 (1 + t440)) == 1))), (zq6), H', ⟨by have := HJ14.out; first | omega | exact Nat.le_refl _⟩, ⟨by (with_reducible repeat (first | refine blk_drewN ?_ _ | refine blk_drew ?_ | refine blk_alloc ?_ _)); exact BK431.out⟩, ⟨by (with_reducible repeat (first | refine blk_drewN ?_ _ | refine blk_drew ?_ | refine blk_alloc ?_ _)); exact BK432.out⟩, ⟨by repeat (first | (with_reducible first | exact HB.out | apply below_alloc | apply pw_below_drewN | apply below_drew1 | refine below_set ?_ GE431.out | refine below_set ?_ GE432.out) | exact HB.out)⟩⟩
      ·rw [if_neg c38] at H
       have c38b0 : (t437 == t438) = false := beq_eq_false_iff_ne.mpr c38
       have c38b1 : (t437 != t438) = true := bne_iff_ne.mpr c38
       (first | rw [c38b0] | (simp only [i64_w, i32_w]; rw [c38b0]) | skip)
       have H' := Aside0.mk H
       clear H
       go_wp2
       go_meet
       case rel => exact ⟨_, (false), (zq6), H', ⟨by have := HJ14.out; first | omega | exact Nat.le_refl _⟩, ⟨by (with_reducible repeat (first | refine blk_drewN ?_ _ | refine blk_drew ?_ | refine blk_alloc ?_ _)); exact BK431.out⟩, ⟨by (with_reducible repeat (first | refine blk_drewN ?_ _ | refine blk_drew ?_ | refine blk_alloc ?_ _)); exact BK432.out⟩, ⟨by repeat (first | (with_reducible first | exact HB.out | apply below_alloc | apply pw_below_drewN | apply below_drew1 | refine below_set ?_ GE431.out | refine below_set ?_ GE432.out) | exact HB.out)⟩⟩
     case rest =>
      clear HC37
      try clear c1
      try clear c2
      try clear p2
      try clear c3
      try clear c4
      try clear p6
      try clear c7
      try clear c11
      try clear c12
      try clear c13
      try clear c16
      try clear c17
      try clear c20
      try clear c28
      try clear c28b0
      try clear c28b1
      try clear c29
      try clear c30
      try clear c30b0
      try clear c30b1
      try clear c31
      try clear c31b0
      try clear c31b1
      try clear c32
      try clear c32b0
      try clear c32b1
      try clear c33
      try clear c33b0
      try clear c33b1
      try clear c34
      try clear c34b0
      try clear c34b1
      try clear c35
      try clear c35b0
      try clear c35b1
      try clear c36
      try clear c36b0
      try clear c36b1
      try clear c38
      try clear c38b0
      try clear c38b1
      try clear hcz21_0
      try clear hcz21_1
      try clear hcz24_0
      try clear hcz24_1
      try clear hfz21_0
      try clear hfz21_1
      try clear hfz24_0
      try clear hfz24_1
      try clear p2
      try clear p6
      obtain ⟨kq, x95_36, rfl, HA, HJ36, BK431, BK432, HB⟩ := hcut
      cases kq with
      | zero => exact absurd HA.out (by simp [dialtonelaw12_PlanUnique.j1])
      | succ kj36 =>
       have H := HA.out
       clear HA
       simp only [dialtonelaw12_PlanUnique.j1] at H
       by_cases c39 : x95_36 = true
       ·subst c39
        rw [if_pos rfl] at H
        obtain rfl := Option.some.inj H
        go_wp2
        go_ret
        exact ⟨by first | rfl | (simp [errW_none, errW_some] <;> rfl) | (simp [*, errW_none, errW_some] <;> rfl), by repeat (first | (with_reducible first | exact HB.out | apply below_alloc | apply pw_below_drewN | apply below_drew1 | refine below_set ?_ GE431.out | refine below_set ?_ GE432.out) | exact HB.out)⟩
       ·replace c39 := Bool.eq_false_iff.mpr c39
        subst c39
        rw [if_neg (show ¬ (false = true) by decide)] at H
        replace H := Option.bind_eq_some_iff.mp H
        obtain ⟨t445, A400, H⟩ := H
        try dsimp only at H
        have A40 := Aside0.mk A400
        clear A400
        by_cases c41 : t445 = true
        ·subst c41
         rw [if_pos rfl] at H
         obtain rfl := Option.some.inj H
         go_wp2_with (first | ((with_reducible refine gate_callee (f := 27) rfl ?_); refine goesL_ (some 101) rfl rfl Tryz.func27 (by kernel_rfl) rfl #[.string t441, .string t443] rfl (zq3) ?_; (with_reducible refine (dialtonelaw12_begins.calls t441 t443 true _ A40.out).mono ?_); rintro e w' ⟨rfl, ⟨nd, rfl⟩⟩; refine ⟨_, rfl, ?_⟩))
         go_ret
         exact ⟨by first | rfl | (simp [errW_none, errW_some] <;> rfl) | (simp [*, errW_none, errW_some] <;> rfl), by repeat (first | (with_reducible first | exact HB.out | apply below_alloc | apply pw_below_drewN | apply below_drew1 | refine below_set ?_ GE431.out | refine below_set ?_ GE432.out) | exact HB.out)⟩
        ·replace c41 := Bool.eq_false_iff.mpr c41
         subst c41
         rw [if_neg (show ¬ (false = true) by decide)] at H
         replace H := Option.bind_eq_some_iff.mp H
         obtain ⟨t446, A420, H⟩ := H
         try dsimp only at H
         have A42 := Aside0.mk A420
         clear A420
         obtain rfl := Option.some.inj H
         go_wp2_with (first | ((with_reducible refine gate_callee (f := 27) rfl ?_); refine goesL_ (some 101) rfl rfl Tryz.func27 (by kernel_rfl) rfl #[.string t441, .string t443] rfl (zq3) ?_; (with_reducible refine (dialtonelaw12_begins.calls t441 t443 false _ A40.out).mono ?_); rintro e w' ⟨rfl, ⟨nd, rfl⟩⟩; refine ⟨_, rfl, ?_⟩) | (go_at_call 27; (with_reducible refine (dialtonelaw12_begins.calls t443 t441 t446 _ A42.out).mono ?_); rintro e w' ⟨rfl, ⟨nd, rfl⟩⟩))
         go_ret
         exact ⟨by first | rfl | (simp [errW_none, errW_some] <;> rfl) | (simp [*, errW_none, errW_some] <;> rfl), by repeat (first | (with_reducible first | exact HB.out | apply below_alloc | apply pw_below_drewN | apply below_drew1 | refine below_set ?_ GE431.out | refine below_set ?_ GE432.out) | exact HB.out)⟩
 ·replace c7 := Bool.eq_false_iff.mpr c7
  subst c7
  rw [if_neg (show ¬ (false = true) by decide)] at H
  obtain rfl := Option.some.inj H
  go_enter Tryz.func4, Tryz.ntmps4
  go_wp2_with (first | ((with_reducible refine gate_dst (N := 6) rfl ?_); refine box_event ?hg (N := 6) ?hd (cs := #[.int .i64 a1_0, .int .i64 a1_1]) (t := 50) ?hr ?_; (case hd => rfl); (case hg => rfl); (case hr => exact zq0); intro gb431 hg w43 hbox hb; have n0_ := Aside0.mk (below_step (zq1) hb); have n1_ := Aside0.mk (hbox); have n2_ := Aside0.mk ((zq2 : w.heap.size ≤ gb431)); have n3_ := Aside0.mk ((zq2 : w.heap.size ≤ gb431)); clear HB; have HB := n0_; have BK431 := n1_; have GW431 := n2_; have GE431 := n3_; clear n0_ n1_ n2_ n3_; clear hb hbox hg) | ((with_reducible refine gate_dst (N := 7) rfl ?_); refine box_event ?hg (N := 7) ?hd (cs := #[.int .i64 a2_0, .int .i64 a2_1]) (t := 50) ?hr ?_; (case hd => rfl); (case hg => rfl); (case hr => exact zq0); intro gb432 hg w44 hbox hb; have n0_ := Aside0.mk (blk_below (g := gb431) (o := .cells #[.int .i64 a1_0, .int .i64 a1_1] 50 (0, 0)) (zq99) hb); have n1_ := Aside0.mk (below_step (zq100) hb); have n2_ := Aside0.mk (hbox); have n3_ := Aside0.mk ((zq101 : w.heap.size ≤ gb432)); have n4_ := Aside0.mk ((zq101 : w.heap.size ≤ gb432)); have n5_ := Aside0.mk ((zq102 : gb431 ≠ gb432)); have n6_ := Aside0.mk ((zq103 : gb432 ≠ gb431)); clear BK431; clear HB; have BK431 := n0_; have HB := n1_; have BK432 := n2_; have GW432 := n3_; have GE432 := n4_; have NB431_432 := n5_; have NB432_431 := n6_; clear n0_ n1_ n2_ n3_ n4_ n5_ n6_; clear hb hbox hg) | ((with_reducible refine gate_callee (f := 11) rfl ?_); refine goesL_ (some 21) rfl rfl Tryz.func11 (by kernel_rfl) rfl #[] rfl (zq3) ?_; (with_reducible refine (dialtonelaw12_sane.calls k  false _ ?side1 A6.out).mono ?_); (case side1 => exact zq104); rintro e w45 ⟨rfl, hb⟩; refine ⟨_, rfl, ?_⟩; have n0_ := Aside0.mk (blk_below (g := gb431) (o := .cells #[.int .i64 a1_0, .int .i64 a1_1] 50 (0, 0)) (zq99) hb); have n1_ := Aside0.mk (blk_below (g := gb432) (o := .cells #[.int .i64 a2_0, .int .i64 a2_1] 50 (0, 0)) (zq106) hb); have n2_ := Aside0.mk (below_step (zq105) hb); clear BK431; clear BK432; clear HB; have BK431 := n0_; have BK432 := n1_; have HB := n2_; clear n0_ n1_ n2_; (try clear hb); (try clear hb2); (try clear hk); (try clear hi)))
  go_ret
  exact ⟨by first | rfl | (simp [errW_none, errW_some] <;> rfl) | (simp [*, errW_none, errW_some] <;> rfl), by repeat (first | (with_reducible first | exact HB.out | apply below_alloc | apply pw_below_drewN | apply below_drew1 | refine below_set ?_ GE431.out | refine below_set ?_ GE432.out) | exact HB.out)⟩
end Go.Proofs.YtlmfoblgheepoaaGreatDoor.Pl
end
section
namespace Go.Proofs.YtlmfoblgheepoaaGreatDoor.Pure
open Go.RowKit Go.Proofs.YtlmfoblgheepoaaGreatDoorW.PrintWords Go.Proofs.YtlmfoblgheepoaaGreatDoorW.PrintLast Go.Proofs.YtlmfoblgheepoaaGreatDoorW.PrintMore Go.Proofs.YtlmfoblgheepoaaGreatDoor.Pl
theorem sane_at : dialtonelaw12_sane.f 60 = some true := by kernel_rfl
theorem sane_ev : Ev (fun k => dialtonelaw12_sane.f k) true := Ev.of dialtonelaw12_sane.mono sane_at
end Go.Proofs.YtlmfoblgheepoaaGreatDoor.Pure
end
section
namespace Go.Proofs.YtlmfoblgheepoaaGreatDoor.Pure
open Go.RowKit Go.Proofs.YtlmfoblgheepoaaGreatDoorW.PrintWords Go.Proofs.YtlmfoblgheepoaaGreatDoorW.PrintLast Go.Proofs.YtlmfoblgheepoaaGreatDoorW.PrintMore Go.Proofs.YtlmfoblgheepoaaGreatDoor.Pl
set_option linter.unusedVariables false
set_option linter.unusedSimpArgs false
abbrev D := List UInt8
def isD (b : UInt8) : Bool := decide (48 ≤ b.toNat) && decide (b.toNat ≤ 57)
def digs (l : D) : Bool := l.all isD
def apt (a b : D) : Bool := !a.isPrefixOf b && !b.isPrefixOf a
def co (c : S29) : D := c.f0.data.toList
def cn (c : S29) : D := c.f1.data.toList
def oneC (c : S29) : Bool := (digs (co c) && digs (cn c)) && (decide (1 ≤ (co c).length ∧ (co c).length ≤ 4 ∧ 1 ≤ (cn c).length ∧ (cn c).length ≤ 5 ∧ ((co c).length : Int) < c.f2 ∧ c.f2 ≤ 7 ∧ c.f2 - (co c).length ≤ 8 - (cn c).length) && apt (co c) (cn c))
def dif (c d : S29) : Bool := apt (co c) (co d) && (apt (cn c) (cn d) && (apt (co c) (cn d) && apt (cn c) (co d)))
def vgo : List S29 → List S29 → Bool
  | _, [] => true
  | done, c :: r => oneC c && (done.all (dif c) && vgo (done ++ [c]) r)
def vp (p : List S29) : Bool := decide (p.length ≤ 20) && vgo [] p
theorem w64 {n : Int} (h : -9223372036854775808 ≤ n) (h' : n ≤ 9223372036854775807) : wrap64 n = n := by unfold wrap64; omega
theorem dw_nil (f : UInt8 → Bool) : ∀ l : D, l.dropWhile f = [] ↔ ∀ b ∈ l, f b = true
  | [] => by simp
  | a :: t => by
    rw [List.dropWhile_cons]
    cases h : f a with
    | true => simp [h, dw_nil f t]
    | false => simp [h]
theorem dw_head (f : UInt8 → Bool) : ∀ (l : D) {a : UInt8} {t : D}, l.dropWhile f = a :: t → f a = false
  | [], _, _, h => by simp at h
  | b :: r, a, t, h => by
    rw [List.dropWhile_cons] at h
    cases hb : f b with
    | true => rw [hb] at h; exact dw_head f r h
    | false => rw [hb] at h; simp at h; rw [← h.1]; exact hb
theorem trim_nil (l cs : D) : (Lib.trimS l cs = []) ↔ l.all (cs.contains ·) = true := by
  constructor
  · intro h
    have h1 : ∀ b ∈ Lib.trimRightS l cs, cs.contains b = true := by
      unfold Lib.trimS Lib.trimLeftS at h
      intro b hb
      exact (dw_nil _ _).mp h b hb
    have h2 : Lib.trimRightS l cs = [] := by
      unfold Lib.trimRightS at h1 ⊢
      cases hd : l.reverse.dropWhile (cs.contains ·) with
      | nil => rfl
      | cons a t =>
        rw [hd] at h1
        have := dw_head _ _ hd
        have h3 := h1 a (by simp)
        rw [h3] at this
        cases this
    unfold Lib.trimRightS at h2
    have h3 : l.reverse.dropWhile (cs.contains ·) = [] := by simpa using h2
    rw [List.all_eq_true]
    intro b hb
    exact (dw_nil _ _).mp h3 b (by simpa using hb)
  · intro h
    have h3 : l.reverse.dropWhile (cs.contains ·) = [] := (dw_nil _ _).mpr (fun b hb => (List.all_eq_true.mp h) b (by simpa using hb))
    unfold Lib.trimS Lib.trimRightS Lib.trimLeftS
    rw [h3]; rfl
theorem ten_isD (b : UInt8) : ([48, 49, 50, 51, 52, 53, 54, 55, 56, 57] : D).contains b = isD b := by
  rw [Bool.eq_iff_iff]
  simp only [List.contains_cons, isD, List.contains_nil, Bool.or_eq_true, beq_iff_eq, Bool.and_eq_true, decide_eq_true_eq, ← UInt8.toNat_inj]
  simp
  omega
theorem isDigits_eq (s : ByteArray) (h : s.size ≤ 9223372036854775807) : plan_isDigits.f s = some (digs s.data.toList) := by
  unfold plan_isDigits.f strings_Trim.f
  have hc : (s.size ≤ 9223372036854775807 ∧ (⟨#[48, 49, 50, 51, 52, 53, 54, 55, 56, 57]⟩ : ByteArray).size < 4294967281 ∧ (⟨#[48, 49, 50, 51, 52, 53, 54, 55, 56, 57]⟩ : ByteArray).data.toList.all (fun b => decide (b.toNat < 128)) = true) := ⟨h, by decide, by decide⟩
  rw [if_pos hc]
  simp only [Option.bind_some, Option.some.injEq]
  rw [ByteArray.toList_mk, Bool.eq_iff_iff, beq_iff_eq, trim_nil]
  unfold digs
  have : (fun x => (#[48, 49, 50, 51, 52, 53, 54, 55, 56, 57] : Array UInt8).toList.contains x) = isD := by funext b; exact ten_isD b
  rw [this]
theorem areApart_eq (a b : ByteArray) : plan_areApart.f a b = some (apt a.data.toList b.data.toList) := by
  unfold plan_areApart.f strings_HasPrefix.f Lib.hasPrefix apt
  cases h1 : b.data.toList.isPrefixOf a.data.toList <;> cases h2 : a.data.toList.isPrefixOf b.data.toList <;> simp
theorem begins_eq (a b : ByteArray) : dialtoneref12_begins.f a b = some (a.data.toList.isPrefixOf b.data.toList) := by
  unfold dialtoneref12_begins.f
  have h := Lib.hasPrefix_raw b a
  unfold Lib.hasPrefix at h
  rw [← h]
  by_cases hs : a.size ≤ b.size
  · have : (a.size : Int) ≤ b.size := by omega
    simp [this, hs]
  · have : ¬ (a.size : Int) ≤ b.size := by omega
    simp [this, hs]
theorem apart_eq (a b : ByteArray) : dialtoneref12_apart.f a b = some (apt a.data.toList b.data.toList) := by
  unfold dialtoneref12_apart.f apt
  simp only [begins_eq, Option.bind_some]
  cases h1 : b.data.toList.isPrefixOf a.data.toList <;> cases h2 : a.data.toList.isPrefixOf b.data.toList <;> simp
theorem bt_get (s : ByteArray) (i : Nat) (h : i < s.data.toList.length) : bt s (i : Int) = ((s.data.toList[i]).toNat : Int) := by
  unfold bt
  have hs : ((i : Int).toNat) < s.size := by rw [Lib.size_eq]; simpa using h
  rw [dif_pos hs]
  simp [ByteArray.getElem_eq_getElem_data]
theorem digits_from (s : ByteArray) (hs : s.size ≤ 1000) : ∀ (m i : Nat), m + i = s.size → Ev (fun k => dialtoneref12_digits.l0 k s (i : Int)) (digs (s.data.toList.drop i))
  | 0, i, h => by
    refine Ev.step (fun k => by rw [dialtoneref12_digits.l0]) ?_
    have : ¬ ((i : Int) < s.size) := by omega
    simp only [this, if_false]
    have : s.data.toList.drop i = [] := List.drop_eq_nil_of_le (by rw [← Lib.size_eq]; omega)
    rw [this]
    exact Ev.now _
  | m + 1, i, h => by
    refine Ev.step (fun k => by rw [dialtoneref12_digits.l0]) ?_
    have h1 : ((i : Int) < s.size) := by omega
    have h2 : (0 : Int) ≤ i := by omega
    have hl : i < s.data.toList.length := by rw [← Lib.size_eq]; omega
    have hd : s.data.toList.drop i = s.data.toList[i] :: s.data.toList.drop (i + 1) := List.drop_eq_getElem_cons hl
    have hw : wrap64 ((i : Int) + 1) = ((i + 1 : Nat) : Int) := by rw [w64 (by omega) (by omega)]; rfl
    simp only [h1, h2, if_true, bt_get s i hl, hd, hw]
    have ih := digits_from s hs m (i + 1) (by omega)
    generalize s.data.toList[i] = b at *
    unfold digs at *
    rw [List.all_cons]
    by_cases c1 : (b.toNat : Int) < 48
    · simp only [c1, if_true]
      have : isD b = false := by unfold isD; simp; omega
      rw [this]
      exact Ev.now _
    · by_cases c2 : (b.toNat : Int) > 57
      · simp only [c1, c2, if_true, if_false]
        have : isD b = false := by unfold isD; simp; omega
        rw [this]
        exact Ev.now _
      · simp only [c1, c2, if_false]
        have : isD b = true := by unfold isD; simp; omega
        rw [this, Bool.true_and]
        exact ih
theorem digits_eq (s : ByteArray) (hs : s.size ≤ 1000) : Ev (fun k => dialtoneref12_digits.f k s) (digs s.data.toList) := by
  have := digits_from s hs s.size 0 (by omega)
  simpa [dialtoneref12_digits.f] using this
theorem digs_append (a b : D) : digs (a ++ b) = (digs a && digs b) := by unfold digs; rw [List.all_append]
theorem isWithin_eq (a b c : Int) : plan_isWithin.f a b c = some (decide (b ≤ a) && decide (a ≤ c)) := by
  unfold plan_isWithin.f
  by_cases h : b ≤ a <;> simp [h]
theorem isCode_eq (c : S29) (h0 : c.f0.size ≤ 1000) (h1 : c.f1.size ≤ 1000) : ∀ k, plan_isCode.f (k + 1) c.f0 c.f1 c.f2 = some (oneC c) := by
  intro k
  have e0 : c.f0.size = (co c).length := Lib.size_eq _
  have e1 : c.f1.size = (cn c).length := Lib.size_eq _
  unfold plan_isCode.f
  rw [if_pos (by omega), isDigits_eq _ (by rw [ByteArray.size_append]; omega)]
  have e2 : (c.f0 ++ c.f1).data.toList = co c ++ cn c := by simp [co, cn]
  rw [e2, digs_append]
  simp only [isWithin_eq, Option.bind_some, plan_isCode.j0, areApart_eq, plan_room.f, e0, e1]
  rw [e0] at h0; rw [e1] at h1
  rw [w64 (n := ((co c).length : Int) + 1) (by omega) (by omega), w64 (n := 8 - ((cn c).length : Int)) (by omega) (by omega)]
  show _ = some (oneC c)
  unfold oneC
  by_cases d1 : (digs (co c) && digs (cn c)) = true
  · rw [d1]
    by_cases d2 : (1 ≤ (co c).length ∧ (co c).length ≤ 4)
    · by_cases d3 : (1 ≤ (cn c).length ∧ (cn c).length ≤ 5)
      · by_cases d4 : (((co c).length : Int) < c.f2 ∧ c.f2 ≤ 7)
        · rw [w64 (n := c.f2 - ((co c).length : Int)) (by omega) (by omega)]
          by_cases d5 : c.f2 - ((co c).length : Int) ≤ 8 - ((cn c).length : Int)
          · have a1 : (1 : Int) ≤ (co c).length := by omega
            have a2 : ((co c).length : Int) ≤ 4 := by omega
            have a3 : (1 : Int) ≤ (cn c).length := by omega
            have a4 : ((cn c).length : Int) ≤ 5 := by omega
            have a5 : ((co c).length : Int) + 1 ≤ c.f2 := by omega
            simp [a1, a2, a3, a4, a5, d2, d3, d4, d5]
            rfl
          · have a1 : (1 : Int) ≤ (co c).length := by omega
            have a2 : ((co c).length : Int) ≤ 4 := by omega
            have a3 : (1 : Int) ≤ (cn c).length := by omega
            have a4 : ((cn c).length : Int) ≤ 5 := by omega
            have a5 : ((co c).length : Int) + 1 ≤ c.f2 := by omega
            simp [a1, a2, a3, a4, a5, d2, d3, d4, d5]
        · have a1 : (1 : Int) ≤ (co c).length := by omega
          have a2 : ((co c).length : Int) ≤ 4 := by omega
          have a3 : (1 : Int) ≤ (cn c).length := by omega
          have a4 : ((cn c).length : Int) ≤ 5 := by omega
          have a5 : (decide (((co c).length : Int) + 1 ≤ c.f2) && decide (c.f2 ≤ 7)) = false := by simp; omega
          have a6 : decide (1 ≤ (co c).length ∧ (co c).length ≤ 4 ∧ 1 ≤ (cn c).length ∧ (cn c).length ≤ 5 ∧ ((co c).length : Int) < c.f2 ∧ c.f2 ≤ 7 ∧ c.f2 - (co c).length ≤ 8 - (cn c).length) = false := by simp; omega
          simp only [a5, a6]
          simp [a1, a2, a3, a4]
      · have a1 : (1 : Int) ≤ (co c).length := by omega
        have a2 : ((co c).length : Int) ≤ 4 := by omega
        have a5 : (decide (1 ≤ ((cn c).length : Int)) && decide (((cn c).length : Int) ≤ 5)) = false := by simp; omega
        have a6 : decide (1 ≤ (co c).length ∧ (co c).length ≤ 4 ∧ 1 ≤ (cn c).length ∧ (cn c).length ≤ 5 ∧ ((co c).length : Int) < c.f2 ∧ c.f2 ≤ 7 ∧ c.f2 - (co c).length ≤ 8 - (cn c).length) = false := by simp; omega
        simp only [a5, a6]
        simp [a1, a2]
    · have a5 : (decide (1 ≤ ((co c).length : Int)) && decide (((co c).length : Int) ≤ 4)) = false := by simp; omega
      have a6 : decide (1 ≤ (co c).length ∧ (co c).length ≤ 4 ∧ 1 ≤ (cn c).length ∧ (cn c).length ≤ 5 ∧ ((co c).length : Int) < c.f2 ∧ c.f2 ≤ 7 ∧ c.f2 - (co c).length ≤ 8 - (cn c).length) = false := by simp; omega
      simp only [a5, a6]
      simp
  · simp only [d1]
    simp
theorem one_ev (c : S29) (h0 : c.f0.size ≤ 1000) (h1 : c.f1.size ≤ 1000) : Ev (fun k => dialtoneref12_one.f k c.f0 c.f1 c.f2) (oneC c) := by
  have e0 : c.f0.size = (co c).length := Lib.size_eq _
  have e1 : c.f1.size = (cn c).length := Lib.size_eq _
  unfold dialtoneref12_one.f
  refine Ev.bind (digits_eq _ h0) ?_
  simp only [apart_eq, e0, e1, Option.bind_some]
  rw [e0] at h0; rw [e1] at h1
  show Ev _ (oneC c)
  unfold oneC
  cases hd : digs (co c) with
  | false =>
    have : digs c.f0.data.toList = false := hd
    simp only [this]
    simp
    exact Ev.now _
  | true =>
    have hd' : digs c.f0.data.toList = true := hd
    simp only [hd', if_true]
    refine Ev.bind (digits_eq _ (by rw [e1]; exact h1)) ?_
    cases hn : digs (cn c) with
    | false =>
      have : digs c.f1.data.toList = false := hn
      simp only [this]
      simp
      exact Ev.now _
    | true =>
      have hn' : digs c.f1.data.toList = true := hn
      simp only [hn', if_true]
      refine ⟨0, fun k _ => ?_⟩
      rw [w64 (n := 8 - ((cn c).length : Int)) (by omega) (by omega)]
      split
      · have a6 : decide (1 ≤ (co c).length ∧ (co c).length ≤ 4 ∧ 1 ≤ (cn c).length ∧ (cn c).length ≤ 5 ∧ ((co c).length : Int) < c.f2 ∧ c.f2 ≤ 7 ∧ c.f2 - (co c).length ≤ 8 - (cn c).length) = false := by simp; omega
        simp [a6]
      split
      · have a6 : decide (1 ≤ (co c).length ∧ (co c).length ≤ 4 ∧ 1 ≤ (cn c).length ∧ (cn c).length ≤ 5 ∧ ((co c).length : Int) < c.f2 ∧ c.f2 ≤ 7 ∧ c.f2 - (co c).length ≤ 8 - (cn c).length) = false := by simp; omega
        simp [a6]
      split
      · have a6 : decide (1 ≤ (co c).length ∧ (co c).length ≤ 4 ∧ 1 ≤ (cn c).length ∧ (cn c).length ≤ 5 ∧ ((co c).length : Int) < c.f2 ∧ c.f2 ≤ 7 ∧ c.f2 - (co c).length ≤ 8 - (cn c).length) = false := by simp; omega
        simp [a6]
      split
      · have a6 : decide (1 ≤ (co c).length ∧ (co c).length ≤ 4 ∧ 1 ≤ (cn c).length ∧ (cn c).length ≤ 5 ∧ ((co c).length : Int) < c.f2 ∧ c.f2 ≤ 7 ∧ c.f2 - (co c).length ≤ 8 - (cn c).length) = false := by simp; omega
        simp [a6]
      split
      · split
        · rw [w64 (n := c.f2 - ((co c).length : Int)) (by omega) (by omega)]
          split
          · have a6 : decide (1 ≤ (co c).length ∧ (co c).length ≤ 4 ∧ 1 ≤ (cn c).length ∧ (cn c).length ≤ 5 ∧ ((co c).length : Int) < c.f2 ∧ c.f2 ≤ 7 ∧ c.f2 - (co c).length ≤ 8 - (cn c).length) = true := by simp; omega
            rw [a6]; rfl
          · have a6 : decide (1 ≤ (co c).length ∧ (co c).length ≤ 4 ∧ 1 ≤ (cn c).length ∧ (cn c).length ≤ 5 ∧ ((co c).length : Int) < c.f2 ∧ c.f2 ≤ 7 ∧ c.f2 - (co c).length ≤ 8 - (cn c).length) = false := by simp; omega
            simp [a6]
        · have a6 : decide (1 ≤ (co c).length ∧ (co c).length ≤ 4 ∧ 1 ≤ (cn c).length ∧ (cn c).length ≤ 5 ∧ ((co c).length : Int) < c.f2 ∧ c.f2 ≤ 7 ∧ c.f2 - (co c).length ≤ 8 - (cn c).length) = false := by simp; omega
          simp [a6]
      · have a6 : decide (1 ≤ (co c).length ∧ (co c).length ≤ 4 ∧ 1 ≤ (cn c).length ∧ (cn c).length ≤ 5 ∧ ((co c).length : Int) < c.f2 ∧ c.f2 ≤ 7 ∧ c.f2 - (co c).length ≤ 8 - (cn c).length) = false := by simp; omega
        simp [a6]
end Go.Proofs.YtlmfoblgheepoaaGreatDoor.Pure
end
section
namespace Go.Proofs.YtlmfoblgheepoaaGreatDoor.Pure
open Go.RowKit Go.Proofs.YtlmfoblgheepoaaGreatDoorW.PrintWords Go.Proofs.YtlmfoblgheepoaaGreatDoorW.PrintLast Go.Proofs.YtlmfoblgheepoaaGreatDoorW.PrintMore Go.Proofs.YtlmfoblgheepoaaGreatDoor.Pl
set_option linter.unusedVariables false
set_option linter.unusedSimpArgs false
def smallP (p : List S29) : Prop := ∀ c ∈ p, c.f0.size ≤ 1000 ∧ c.f1.size ≤ 1000
def pgo : List S29 → List S29 → Bool
  | _, [] => true
  | done, c :: r => done.all (dif c) && pgo (done ++ [c]) r
theorem vgo_pgo : ∀ (rest done : List S29), vgo done rest = (rest.all oneC && pgo done rest)
  | [], _ => rfl
  | c :: r, done => by
    rw [vgo, pgo, vgo_pgo r, List.all_cons]
    cases oneC c <;> cases done.all (dif c) <;> cases r.all oneC <;> rfl
theorem rd29 (p : List S29) (i : Nat) (h : i < p.length) : rd_T29 p (i : Int) = p[i] := by
  unfold rd_T29; simp [h]
theorem drop_at {α : Type} (p : List α) (i : Nat) (h : i < p.length) : p.drop i = p[i] :: p.drop (i + 1) := List.drop_eq_getElem_cons h
theorem take_at {α : Type} (p : List α) (i : Nat) (h : i < p.length) : p.take i ++ [p[i]] = p.take (i + 1) := by rw [List.take_succ_eq_append_getElem h]
theorem wi (i : Nat) (h : i < 3518437208883) : wrap64 ((i : Int) + 1) = ((i + 1 : Nat) : Int) := by rw [w64 (by omega) (by omega)]; rfl
theorem dif_eq (c d : S29) : plan_Valid_1.f c.f0 c.f1 c.f2 d.f0 d.f1 d.f2 = some (dif c d) := by
  unfold plan_Valid_1.f dif
  simp only [areApart_eq, Option.bind_some]
  show (if apt (co c) (co d) = true then if apt (cn c) (cn d) = true then if apt (co c) (cn d) = true then some (apt (cn c) (co d)) else some false else some false else some false) = _
  cases apt (co c) (co d) <;> cases apt (cn c) (cn d) <;> cases apt (co c) (cn d) <;> simp
theorem all_in (p : List S29) (c : S29) (i : Int) (y : List S29) (hy : y.length < 3518437208883) (R : Bool) (h : Ev (fun k => api_Code.l0 k p p (p.length : Int) (wrap64 (i + 1))) R) :
    ∀ m j : Nat, m + j = y.length → Ev (fun k => api_Code.l1 k p p (p.length : Int) i y (y.length : Int) (j : Int) c.f0 c.f1 c.f2) ((y.drop j).all (dif c) && R)
  | 0, j, hj => by
    refine Ev.step (fun k => by rw [api_Code.l1]) ?_
    have h1 : ¬ ((j : Int) < y.length) := by omega
    simp only [h1, if_false]
    rw [List.drop_eq_nil_of_le (by omega)]
    simpa using h
  | m + 1, j, hj => by
    refine Ev.step (fun k => by rw [api_Code.l1]) ?_
    have h1 : ((j : Int) < y.length) := by omega
    have h2 : (0 : Int) ≤ j := by omega
    have hl : j < y.length := by omega
    simp only [h1, h2, if_true, rd29 y j hl, dif_eq, Option.bind_some, wi j (by omega), drop_at y j hl, List.all_cons]
    cases hd : dif c y[j] with
    | true =>
      simp only [if_true, Bool.true_and]
      exact all_in p c i y hy R h m (j + 1) (by omega)
    | false =>
      simp
      exact Ev.now _
theorem all_out (p : List S29) (hp : p.length < 3518437208883) : ∀ m i : Nat, m + i = p.length → Ev (fun k => api_Code.l0 k p p (p.length : Int) (i : Int)) (pgo (p.take i) (p.drop i))
  | 0, i, hi => by
    refine Ev.step (fun k => by rw [api_Code.l0]) ?_
    have h1 : ¬ ((i : Int) < p.length) := by omega
    simp only [h1, if_false]
    rw [List.drop_eq_nil_of_le (by omega)]
    exact Ev.now _
  | m + 1, i, hi => by
    refine Ev.step (fun k => by rw [api_Code.l0]) ?_
    have h1 : ((i : Int) < p.length) := by omega
    have h2 : (0 : Int) ≤ i := by omega
    have h3 : ((i : Int) ≤ p.length) := by omega
    have hl : i < p.length := by omega
    simp only [h1, h2, h3, if_true, rd29 p i hl, Option.bind_some, Int.toNat_natCast, drop_at p i hl, pgo]
    have ih := all_out p hp m (i + 1) (by omega)
    rw [← wi i (by omega)] at ih
    have := all_in p p[i] (i : Int) (p.take i) (by rw [List.length_take]; omega) _ ih (p.take i).length 0 (by simp)
    rw [List.drop_zero, ← take_at p i hl] at this
    exact this
theorem code_ev (p : List S29) (hp : p.length < 3518437208883) : Ev (fun k => api_Code.f k p ()) (pgo [] p) := by
  have := all_out p hp p.length 0 (by omega)
  simpa [api_Code.f] using this
theorem valid_from (p : List S29) (hp : p.length < 3518437208883) (hs : smallP p) : ∀ m i : Nat, m + i = p.length → Ev (fun k => plan_Valid.l0 k p p (p.length : Int) (i : Int)) ((p.drop i).all oneC && (decide (p.length ≤ 20) && pgo [] p))
  | 0, i, hi => by
    refine Ev.step (fun k => by rw [plan_Valid.l0]) ?_
    have h1 : ¬ ((i : Int) < p.length) := by omega
    simp only [h1, if_false]
    rw [List.drop_eq_nil_of_le (by omega)]
    by_cases h : p.length ≤ 20
    · have h' : (p.length : Int) ≤ 20 := by omega
      simp only [h', if_true, h]
      refine Ev.bind (code_ev p hp) ?_
      simp
      exact Ev.now _
    · have h' : ¬ (p.length : Int) ≤ 20 := by omega
      simp only [h', if_false, h]
      simp
      exact Ev.now _
  | m + 1, i, hi => by
    have h1 : ((i : Int) < p.length) := by omega
    have h2 : (0 : Int) ≤ i := by omega
    have hl : i < p.length := by omega
    have hc := hs p[i] (List.getElem_mem hl)
    refine Ev.step (fun k => by rw [plan_Valid.l0]) ?_
    simp only [h1, h2, if_true, rd29 p i hl, wi i (by omega), drop_at p i hl, List.all_cons]
    refine Ev.bind (Ev.step (fun k => isCode_eq p[i] hc.1 hc.2 k) (Ev.now _)) ?_
    cases oneC p[i] with
    | true =>
      simp only [if_true, Bool.true_and]
      exact valid_from p hp hs m (i + 1) (by omega)
    | false =>
      simp
      exact Ev.now _
theorem valid_ev (p : List S29) (hp : p.length < 3518437208883) (hs : smallP p) : Ev (fun k => plan_Valid.f k p) (vp p) := by
  have := valid_from p hp hs p.length 0 (by omega)
  have e : vp p = ((p.drop 0).all oneC && (decide (p.length ≤ 20) && pgo [] p)) := by
    unfold vp
    rw [vgo_pgo, List.drop_zero]
    cases decide (p.length ≤ 20) <;> cases p.all oneC <;> rfl
  rw [e]
  simpa [plan_Valid.f] using this
theorem rvalid_in (p : List S29) (i : Nat) (hi : i < p.length) (hp : p.length < 3518437208883) (R : Bool) (h : Ev (fun k => dialtoneref12_Valid.l0 k p (wrap64 ((i : Int) + 1))) R) :
    ∀ m j : Nat, m + j = i → Ev (fun k => dialtoneref12_Valid.l1 k p (i : Int) (j : Int)) (((p.take i).drop j).all (dif p[i]) && R)
  | 0, j, hj => by
    refine Ev.step (fun k => by rw [dialtoneref12_Valid.l1]) ?_
    have h1 : ¬ ((j : Int) < i) := by omega
    simp only [h1, if_false]
    rw [List.drop_eq_nil_of_le (by rw [List.length_take]; omega)]
    simpa using h
  | m + 1, j, hj => by
    refine Ev.step (fun k => by rw [dialtoneref12_Valid.l1]) ?_
    have h1 : ((j : Int) < i) := by omega
    have h2 : (0 : Int) ≤ j := by omega
    have h3 : ((i : Int) < p.length) := by omega
    have h4 : (0 : Int) ≤ i := by omega
    have h5 : ((j : Int) < p.length) := by omega
    have hl : j < (p.take i).length := by rw [List.length_take]; omega
    have hj' : j < p.length := by omega
    simp only [h1, h2, h3, h4, h5, if_true, rd29 p j hj', rd29 p i hi, apart_eq, Option.bind_some, wi j (by omega), drop_at (p.take i) j hl, List.all_cons, List.getElem_take]
    have ih := rvalid_in p i hi hp R h m (j + 1) (by omega)
    have e : dif p[i] p[j] = (apt p[i].f0.data.toList p[j].f0.data.toList && (apt p[i].f1.data.toList p[j].f1.data.toList && (apt p[i].f0.data.toList p[j].f1.data.toList && apt p[i].f1.data.toList p[j].f0.data.toList))) := rfl
    rw [e]
    cases apt p[i].f0.data.toList p[j].f0.data.toList with
    | false => simp; exact Ev.now _
    | true => cases apt p[i].f1.data.toList p[j].f1.data.toList with
      | false => simp; exact Ev.now _
      | true => cases apt p[i].f0.data.toList p[j].f1.data.toList with
        | false => simp; exact Ev.now _
        | true => cases apt p[i].f1.data.toList p[j].f0.data.toList with
          | false => simp; exact Ev.now _
          | true => simp only [if_true, Bool.true_and]; exact ih
theorem rvalid_from (p : List S29) (hp : p.length < 3518437208883) (hs : smallP p) : ∀ m i : Nat, m + i = p.length → Ev (fun k => dialtoneref12_Valid.l0 k p (i : Int)) (vgo (p.take i) (p.drop i))
  | 0, i, hi => by
    refine Ev.step (fun k => by rw [dialtoneref12_Valid.l0]) ?_
    have h1 : ¬ ((i : Int) < p.length) := by omega
    simp only [h1, if_false]
    rw [List.drop_eq_nil_of_le (by omega)]
    exact Ev.now _
  | m + 1, i, hi => by
    have h1 : ((i : Int) < p.length) := by omega
    have h2 : (0 : Int) ≤ i := by omega
    have hl : i < p.length := by omega
    have hc := hs p[i] (List.getElem_mem hl)
    refine Ev.step (fun k => by rw [dialtoneref12_Valid.l0]) ?_
    simp only [h1, h2, if_true, rd29 p i hl, drop_at p i hl, vgo]
    refine Ev.bind (one_ev p[i] hc.1 hc.2) ?_
    cases oneC p[i] with
    | true =>
      simp only [if_true, Bool.true_and]
      have ih := rvalid_from p hp hs m (i + 1) (by omega)
      rw [← wi i (by omega)] at ih
      have := rvalid_in p i hl hp _ ih i 0 (by omega)
      rw [List.drop_zero, ← take_at p i hl] at this
      exact this
    | false =>
      simp
      exact Ev.now _
theorem rvalid_ev (p : List S29) (hp : p.length < 3518437208883) (hs : smallP p) : Ev (fun k => dialtoneref12_Valid.f k p) (vp p) := by
  unfold dialtoneref12_Valid.f vp
  by_cases h : p.length ≤ 20
  · have h' : ¬ (p.length : Int) > 20 := by omega
    simp only [h', if_false, h]
    have := rvalid_from p hp hs p.length 0 (by omega)
    simpa using this
  · have h' : (p.length : Int) > 20 := by omega
    simp only [h', if_true, h]
    simp
    exact Ev.now _
end Go.Proofs.YtlmfoblgheepoaaGreatDoor.Pure
end
section
namespace Go.Proofs.YtlmfoblgheepoaaGreatDoor.Pure
open Go.RowKit Go.Proofs.YtlmfoblgheepoaaGreatDoorW.PrintWords Go.Proofs.YtlmfoblgheepoaaGreatDoorW.PrintLast Go.Proofs.YtlmfoblgheepoaaGreatDoorW.PrintMore Go.Proofs.YtlmfoblgheepoaaGreatDoor.Pl
set_option linter.unusedVariables false
set_option linter.unusedSimpArgs false
def valF (a : Nat) (l : D) : Nat := l.foldl (fun a b => a * 10 + (b.toNat - 48)) a
theorem valF_nil (a : Nat) : valF a [] = a := rfl
theorem valF_cons (a : Nat) (b : UInt8) (r : D) : valF a (b :: r) = valF (a * 10 + (b.toNat - 48)) r := by unfold valF; rw [List.foldl_cons]
def val (l : D) : Nat := valF 0 l
def dg (n : Nat) : UInt8 := UInt8.ofNat (48 + n % 10)
def eightK : Nat → Nat → D
  | 0, _ => []
  | k + 1, m => eightK k (m / 10) ++ [dg m]
theorem dg_toNat (n : Nat) : (dg n).toNat = 48 + n % 10 := by unfold dg; simp; omega
theorem dg_isD (n : Nat) : isD (dg n) = true := by unfold isD; rw [dg_toNat]; simp; omega
theorem isD_iff (b : UInt8) : isD b = true ↔ 48 ≤ b.toNat ∧ b.toNat ≤ 57 := by unfold isD; simp
theorem valF_acc : ∀ (l : D) (a : Nat), valF a l = a * 10 ^ l.length + val l
  | [], a => by simp [valF_nil, val]
  | b :: r, a => by
    rw [valF_cons, valF_acc r, show val (b :: r) = valF (0 * 10 + (b.toNat - 48)) r from valF_cons 0 b r, valF_acc r (0 * 10 + (b.toNat - 48)), List.length_cons, Nat.pow_succ, Nat.zero_mul, Nat.zero_add, Nat.add_mul]
    rw [Nat.mul_assoc, Nat.mul_comm 10 (10 ^ r.length)]
    omega
theorem valF_append : ∀ (a b : D) (n : Nat), valF n (a ++ b) = valF (valF n a) b
  | [], b, n => rfl
  | x :: a, b, n => by rw [List.cons_append, valF_cons, valF_cons, valF_append a b]
theorem val_append (a b : D) : val (a ++ b) = val a * 10 ^ b.length + val b := by
  unfold val
  rw [valF_append, valF_acc b]
  rfl
theorem val_nil : val [] = 0 := rfl
theorem val_one (b : UInt8) : val [b] = b.toNat - 48 := by show 0 * 10 + (b.toNat - 48) = _; omega
theorem val_lt : ∀ (l : D), digs l = true → val l < 10 ^ l.length
  | [], _ => by simp [val, valF_nil]
  | b :: r, h => by
    have hb : isD b = true ∧ digs r = true := by simpa [digs] using h
    have h1 := val_lt r hb.2
    have h2 := (isD_iff b).mp hb.1
    rw [val, valF_cons, valF_acc, List.length_cons, Nat.pow_succ]
    have : (0 * 10 + (b.toNat - 48)) * 10 ^ r.length ≤ 9 * 10 ^ r.length := Nat.mul_le_mul_right _ (by omega)
    omega
theorem eightK_length : ∀ k m, (eightK k m).length = k
  | 0, _ => rfl
  | k + 1, m => by rw [eightK, List.length_append, eightK_length k]; rfl
theorem eightK_digs : ∀ k m, digs (eightK k m) = true
  | 0, _ => rfl
  | k + 1, m => by rw [eightK, digs_append, eightK_digs k]; simp [digs, dg_isD]
theorem val_eightK : ∀ k m, val (eightK k m) = m % 10 ^ k
  | 0, m => by simp [eightK, val, valF_nil, Nat.mod_one]
  | k + 1, m => by
    rw [eightK, val_append, val_eightK k, val_one, dg_toNat, Nat.pow_succ, Nat.mul_comm (10 ^ k) 10, Nat.mod_mul]
    simp
    omega
theorem eightK_zero : ∀ k, eightK k 0 = List.replicate k 48
  | 0 => rfl
  | k + 1 => by
    rw [eightK, Nat.zero_div, eightK_zero k, List.replicate_succ']
    rfl
theorem dec_length_pos (u : Nat) : 1 ≤ (Lib.decDigits u).length := by
  rw [Lib.decDigits]; split <;> simp
theorem dec_eight : ∀ (k u : Nat), 1 ≤ k → u < 10 ^ k → (Lib.decDigits u).length ≤ k ∧ List.replicate (k - (Lib.decDigits u).length) (48 : UInt8) ++ Lib.decDigits u = eightK k u
  | 0, u, h, _ => by omega
  | k + 1, u, _, hu => by
    rw [Lib.decDigits, eightK]
    split
    · rename_i h
      have e0 : u / 10 = 0 := by omega
      have e1 : UInt8.ofNat (48 + u) = dg u := by unfold dg; congr 2; omega
      rw [e0, eightK_zero, e1]
      exact ⟨by simp, by simp⟩
    · rename_i h
      have hk : 1 ≤ k := by
        rcases Nat.eq_zero_or_pos k with h0 | h0
        · subst h0; simp at hu; omega
        · exact h0
      have ih := dec_eight k (u / 10) hk (by rw [Nat.pow_succ] at hu; omega)
      refine ⟨by simp; exact ih.1, ?_⟩
      rw [← ih.2]
      have : k + 1 - (Lib.decDigits (u / 10) ++ [UInt8.ofNat (48 + u % 10)]).length = k - (Lib.decDigits (u / 10)).length := by simp
      rw [this, List.append_assoc]
      rfl
theorem eight_eq (m : Nat) (h : m ≤ 99999999) : plan_eight.f (m : Int) = some ⟨(eightK 8 m).toArray⟩ := by
  have hd := dec_eight 8 m (by omega) (by omega)
  have hi : Lib.itoa (m : Int) = Lib.decDigits m := by unfold Lib.itoa; rw [if_neg (by omega)]; rfl
  unfold plan_eight.f strconv_Itoa.f
  rw [if_pos ⟨by omega, by omega⟩, hi]
  simp only [Option.bind_some]
  have hz : (⟨(Lib.decDigits m).toArray⟩ : ByteArray).size = (Lib.decDigits m).length := by rw [Lib.size_eq]
  have hlp := dec_length_pos m
  unfold strings_Repeat.f
  rw [hz, w64 (by omega) (by omega)]
  have h1 : (8 - ((Lib.decDigits m).length : Int)).toNat = 8 - (Lib.decDigits m).length := by omega
  have hone : (⟨#[48]⟩ : ByteArray).size = 1 := rfl
  rw [if_pos ⟨by omega, by omega, by rw [h1, hone]; omega⟩]
  simp only [Option.bind_some]
  have hr : Lib.repeatL (⟨#[48]⟩ : ByteArray).data.toList (8 - ((Lib.decDigits m).length : Int)).toNat = List.replicate (8 - (Lib.decDigits m).length) 48 := by
    rw [h1]
    have := Lib.repeatL_replicate (48 : UInt8) 1 (8 - (Lib.decDigits m).length)
    simpa using this
  rw [hr]
  have hs : (⟨(List.replicate (8 - (Lib.decDigits m).length) (48 : UInt8)).toArray⟩ : ByteArray).size = 8 - (Lib.decDigits m).length := by rw [Lib.size_eq]; simp
  rw [if_pos (by rw [hs]; omega)]
  congr 1
  have : ∀ a b : ByteArray, a.data.toList = b.data.toList → a = b := by
    intro a b e; cases a; cases b; simp at e; simp [e]
  apply this
  simp
  exact hd.2
theorem pow10_small {n : Nat} (h : n ≤ 8) : 10 ^ n ≤ 100000000 := Nat.pow_le_pow_right (n := 10) (by decide) h
theorem value_from (s : ByteArray) (hs : s.size ≤ 16) (hd : digs s.data.toList = true) : ∀ m i : Nat, m + i = s.size → Ev (fun k => dialtoneref12_value.l0 k s ((val (s.data.toList.take i) : Nat) : Int) (i : Int)) ((val s.data.toList : Nat) : Int)
  | 0, i, h => by
    refine Ev.step (fun k => by rw [dialtoneref12_value.l0]) ?_
    have h1 : ¬ ((i : Int) < s.size) := by omega
    simp only [h1, if_false]
    rw [List.take_of_length_le (by rw [← Lib.size_eq]; omega)]
    exact Ev.now _
  | m + 1, i, h => by
    refine Ev.step (fun k => by rw [dialtoneref12_value.l0]) ?_
    have h1 : ((i : Int) < s.size) := by omega
    have h2 : (0 : Int) ≤ i := by omega
    have hl : i < s.data.toList.length := by rw [← Lib.size_eq]; omega
    have ha : ∀ b ∈ s.data.toList, isD b = true := by intro b hb; exact List.all_eq_true.mp hd b hb
    have hb := (isD_iff _).mp (ha _ (List.getElem_mem hl))
    have hv : val (s.data.toList.take i) < 10 ^ 16 := by
      have h3 : digs (s.data.toList.take i) = true := List.all_eq_true.mpr (fun b hb => ha b (List.mem_of_mem_take hb))
      have h4 := val_lt _ h3
      have h5 : (s.data.toList.take i).length ≤ 16 := by rw [List.length_take, ← Lib.size_eq]; omega
      have := Nat.pow_le_pow_right (n := 10) (by decide) h5
      omega
    simp only [h1, h2, if_true, wi i (by omega), bt_get s i hl]
    have e : wrap64 (wrap64 (10 * ((val (s.data.toList.take i) : Nat) : Int)) + ((s.data.toList[i].toNat : Int) - 48) % 256) = ((val (s.data.toList.take (i + 1)) : Nat) : Int) := by
      rw [← take_at _ i hl, val_append, val_one]
      rw [w64 (n := 10 * _) (by omega) (by omega), w64 (by omega) (by omega)]
      simp only [List.length_cons, List.length_nil]
      omega
    rw [e]
    exact value_from s hs hd m (i + 1) (by omega)
theorem value_ev (s : ByteArray) (hs : s.size ≤ 16) (hd : digs s.data.toList = true) : Ev (fun k => dialtoneref12_value.f k s) ((val s.data.toList : Nat) : Int) := by
  have := value_from s hs hd s.size 0 (by omega)
  simpa [dialtoneref12_value.f, val_nil] using this
theorem ba_ext {a b : ByteArray} (h : a.data.toList = b.data.toList) : a = b := by
  cases a; cases b; simp at h; simp [h]
theorem one_dig (m : Nat) : strOfNums [wrap64 (48 + Int.tmod (m : Int) 10) % 256] = ⟨#[dg m]⟩ := by
  apply ba_ext
  rw [strOfNums_data, Int.tmod_eq_emod_of_nonneg (by omega)]
  have : wrap64 (48 + (m : Int) % 10) % 256 = ((48 + m % 10 : Nat) : Int) := by rw [w64 (by omega) (by omega)]; omega
  rw [this]
  rfl
theorem prefix_from (n : Nat) (hn : n ≤ 9) : ∀ r i c : Nat, r + i = n → c < 1000 → ∀ s : ByteArray, s.size = i → digs s.data.toList = true → ∃ t : ByteArray, t.size = n ∧ digs t.data.toList = true ∧ Ev (fun k => dialtoneref12_prefix.l0 k (c : Int) (n : Int) s (i : Int)) t
  | 0, i, c, h, hc, s, hs, hd => by
    refine ⟨s, by omega, hd, Ev.step (fun k => by rw [dialtoneref12_prefix.l0]) ?_⟩
    have h1 : ¬ ((i : Int) < n) := by omega
    simp only [h1, if_false]
    exact Ev.now _
  | r + 1, i, c, h, hc, s, hs, hd => by
    have ho : (⟨#[dg c]⟩ : ByteArray).size = 1 := rfl
    obtain ⟨t, ht, hdt, hev⟩ := prefix_from n hn r (i + 1) (c / 10) (by omega) (by omega) (s ++ ⟨#[dg c]⟩) (by rw [ByteArray.size_append, hs, ho]) (by simp [digs_append, hd]; simp [digs, dg_isD])
    refine ⟨t, ht, hdt, Ev.step (fun k => by rw [dialtoneref12_prefix.l0]) ?_⟩
    have h1 : ((i : Int) < n) := by omega
    have e1 : wrap64 (Int.tdiv (c : Int) 10) = ((c / 10 : Nat) : Int) := by
      rw [Int.tdiv_eq_ediv_of_nonneg (by omega), w64 (by omega) (by omega)]
      omega
    have h2 : s.size + 1 ≤ 9223372036854775807 := by omega
    simp only [h1, if_true, wi i (by omega), one_dig, Option.bind_some, ho, h2, e1]
    exact hev
theorem prefix_ev (c n : Nat) (hn : n ≤ 9) (hc : c < 1000) : ∃ t : ByteArray, t.size = n ∧ digs t.data.toList = true ∧ Ev (fun k => dialtoneref12_prefix.f k (c : Int) (n : Int)) t := by
  obtain ⟨t, h1, h2, h3⟩ := prefix_from n hn n 0 c (by omega) hc ⟨#[]⟩ rfl rfl
  exact ⟨t, h1, h2, by simpa [dialtoneref12_prefix.f] using h3⟩
end Go.Proofs.YtlmfoblgheepoaaGreatDoor.Pure
end
section
namespace Go.Proofs.YtlmfoblgheepoaaGreatDoor.Pure
open Go.RowKit Go.Proofs.YtlmfoblgheepoaaGreatDoorW.PrintWords Go.Proofs.YtlmfoblgheepoaaGreatDoorW.PrintLast Go.Proofs.YtlmfoblgheepoaaGreatDoorW.PrintMore Go.Proofs.YtlmfoblgheepoaaGreatDoor.Pl
set_option linter.unusedVariables false
set_option linter.unusedSimpArgs false
theorem wnat (n : Nat) (h : n ≤ 1000000000) : wrap64 (n : Int) = (n : Int) := w64 (by omega) (by omega)
structure One (c : S29) : Prop where
  od : digs (co c) = true
  nd : digs (cn c) = true
  o1 : 1 ≤ (co c).length
  o4 : (co c).length ≤ 4
  n1 : 1 ≤ (cn c).length
  n5 : (cn c).length ≤ 5
  l1 : ((co c).length : Int) < c.f2
  l7 : c.f2 ≤ 7
  rm : c.f2 - (co c).length ≤ 8 - (cn c).length
  ap : apt (co c) (cn c) = true
theorem oneC_of {c : S29} (h : oneC c = true) : One c := by
  unfold oneC at h
  simp only [Bool.and_eq_true, decide_eq_true_eq] at h
  obtain ⟨⟨a, b⟩, ⟨c1, c2, c3, c4, c5, c6, c7⟩, d⟩ := h
  exact ⟨a, b, c1, c2, c3, c4, c5, c6, c7, d⟩
theorem vp_iff (p : List S29) : vp p = true ↔ p.length ≤ 20 ∧ (∀ c ∈ p, oneC c = true) ∧ pgo [] p = true := by
  unfold vp
  rw [vgo_pgo]
  simp
theorem vp_one {p : List S29} (h : vp p = true) {c : S29} (hc : c ∈ p) : One c := oneC_of (((vp_iff p).mp h).2.1 c hc)
theorem vp_small {p : List S29} (h : vp p = true) : smallP p := by
  intro c hc
  have := vp_one h hc
  have h0 : c.f0.size = (co c).length := Lib.size_eq _
  have h1 : c.f1.size = (cn c).length := Lib.size_eq _
  have a := this.o4; have a' := this.n5
  omega
theorem vp_len {p : List S29} (h : vp p = true) : p.length ≤ 20 := ((vp_iff p).mp h).1
def b (d : D) : ByteArray := ⟨d.toArray⟩
theorem b_data (d : D) : (b d).data.toList = d := by simp [b]
theorem b_size (d : D) : (b d).size = d.length := by rw [Lib.size_eq, b_data]
def cutOf (c : S29) : Nat := (8 - (c.f2 - ((co c).length : Int))).toNat
def z48 (l : D) : Bool := l.all (· == 48)
def wC (c : S29) (s : D) (ph : Int) : D × Int :=
  if ph = 1 then (if z48 ((s.drop (cn c).length).take (cutOf c - (cn c).length)) = true then (co c ++ s.drop (cutOf c), 0) else ([], 120)) else (s, 0)
def wgo (s : D) (ph : Int) (l : List S29) : D × Int :=
  match l.find? (fun c => (cn c).isPrefixOf s) with
  | none => ([], 120)
  | some c => wC c s ph
def wS (p : List S29) (m : Nat) (ph : Int) : D × Int := wgo (eightK 8 m) ph p
theorem trim0 (s : ByteArray) (h : s.size ≤ 9223372036854775807) : ∃ t, strings_Trim.f s (⟨#[48]⟩ : ByteArray) = some t ∧ (t.toList = ([] : D) ↔ z48 s.data.toList = true) := by
  refine ⟨⟨(Lib.trimS s.data.toList [48]).toArray⟩, ?_, ?_⟩
  · unfold strings_Trim.f
    rw [if_pos ⟨h, by decide, by decide⟩]
  · rw [ByteArray.toList_mk, trim_nil]
    unfold z48
    have : (fun x => ([48] : D).contains x) = (fun x : UInt8 => x == 48) := by funext x; exact Lib.contains_one 48 x
    rw [this]
theorem write_from (p : List S29) (hv : vp p = true) (s : D) (hs : s.length = 8) (ph : Int) : ∀ m i : Nat, m + i = p.length → Ev (fun k => plan_Write.l0 k ph (b s) p (p.length : Int) (i : Int)) (b (wgo s ph (p.drop i)).1, (wgo s ph (p.drop i)).2)
  | 0, i, h => by
    refine Ev.step (fun k => by rw [plan_Write.l0]) ?_
    have h1 : ¬ ((i : Int) < p.length) := by omega
    simp only [h1, if_false]
    rw [List.drop_eq_nil_of_le (by omega)]
    exact Ev.now _
  | m + 1, i, h => by
    have hv20 := vp_len hv
    have h1 : ((i : Int) < p.length) := by omega
    have h2 : (0 : Int) ≤ i := by omega
    have hl : i < p.length := by omega
    have hc := vp_one hv (List.getElem_mem hl)
    have ih := write_from p hv s hs ph m (i + 1) (by omega)
    refine Ev.step (fun k => by rw [plan_Write.l0]) ?_
    simp only [h1, h2, if_true, rd29 p i hl, wi i (by omega), drop_at p i hl]
    unfold strings_HasPrefix.f Lib.hasPrefix
    simp only [Option.bind_some, b_data]
    generalize p[i] = c at *
    unfold wgo
    rw [List.find?_cons]
    show Ev (fun k => if (cn c).isPrefixOf s = true then _ else _) _
    cases hp : (cn c).isPrefixOf s with
    | false =>
      simp only [Bool.false_eq_true, if_false]
      exact ih
    | true =>
      simp only [if_true]
      have e0 : c.f0.size = (co c).length := Lib.size_eq _
      have e1 : c.f1.size = (cn c).length := Lib.size_eq _
      have a1 := hc.o1; have a2 := hc.o4; have a3 := hc.n1; have a4 := hc.n5; have a5 := hc.l1; have a6 := hc.l7; have a7 := hc.rm
      by_cases hph : ph = 1
      · simp only [hph, if_true, wC, plan_room.f, Option.bind_some, e0, e1, b_size, hs]
        have hr : wrap64 (c.f2 - ((co c).length : Int)) = c.f2 - (co c).length := w64 (by omega) (by omega)
        have hcut : wrap64 (8 - (c.f2 - ((co c).length : Int))) = (cutOf c : Int) := by unfold cutOf; rw [w64 (by omega) (by omega)]; omega
        have hcc : cutOf c ≤ 8 := by unfold cutOf; omega
        have hcn : (cn c).length ≤ cutOf c := by unfold cutOf; omega
        simp only [hr, hcut]
        have h3 : (0 : Int) ≤ (cn c).length := by omega
        have h4 : ((cn c).length : Int) ≤ (cutOf c : Int) := by omega
        have h5 : (cutOf c : Int) ≤ ((8 : Nat) : Int) := by omega
        simp only [h3, h4, h5, if_true, Int.toNat_natCast]
        have hsz : ((b s).extract (cn c).length (cutOf c)).size ≤ 9223372036854775807 := by rw [Lib.size_eq, Lib.extract_data, b_data, List.length_take, List.length_drop]; omega
        obtain ⟨t, ht, htz⟩ := trim0 ((b s).extract (cn c).length (cutOf c)) hsz
        rw [Lib.extract_data, b_data] at htz
        simp only [ht, Option.bind_some]
        by_cases hz : z48 ((s.drop (cn c).length).take (cutOf c - (cn c).length)) = true
        · have h6 := htz.mpr hz
          have h7 : (0 : Int) ≤ (cutOf c : Int) := by omega
          have e8 : ((b s).extract (cutOf c) 8).data.toList = s.drop (cutOf c) := by
            rw [Lib.extract_data, b_data, List.take_of_length_le (by rw [List.length_drop]; omega)]
          have h8 : (co c).length + ((b s).extract (cutOf c) 8).size ≤ 9223372036854775807 := by rw [Lib.size_eq ((b s).extract _ _), e8, List.length_drop]; omega
          simp only [h6, hz, if_true, h7, h8]
          have : c.f0 ++ (b s).extract (cutOf c) 8 = b (co c ++ s.drop (cutOf c)) := by
            apply ba_ext; rw [b_data]; simp only [ByteArray.data_append, Array.toList_append, e8]; rfl
          rw [this]
          exact Ev.now _
        · have h6 : ¬ t.toList = ([] : D) := fun e => hz (htz.mp e)
          simp only [h6, hz, if_false]
          exact Ev.now _
      · simp only [hph, if_false, wC]
        exact Ev.now _
def okPh (ph : Int) : Bool := decide (1 ≤ ph) && decide (ph ≤ 3)
theorem isPhase_eq (ph : Int) : plan_isPhase.f ph = some (okPh ph) := by
  unfold plan_isPhase.f
  rw [isWithin_eq]
  rfl
theorem write_ev (p : List S29) (hv : vp p = true) (m : Nat) (hm : m ≤ 99999999) (ph : Int) (hp : okPh ph = true) : Ev (fun k => plan_Write.f k p (m : Int) ph) (b (wS p m ph).1, (wS p m ph).2) := by
  have hl := vp_len hv
  unfold plan_Write.f
  refine Ev.bind (valid_ev p (by omega) (vp_small hv)) ?_
  simp only [hv, if_true, isPhase_eq, hp, Option.bind_some, isWithin_eq]
  have h1 : decide ((0 : Int) ≤ m) = true := by simp
  have h2 : decide ((m : Int) ≤ 99999999) = true := by simp; omega
  simp only [h1, h2, Bool.and_true, Bool.not_true]
  refine Ev.step (fun k => by rw [plan_Write.j0]) ?_
  simp only [Bool.false_eq_true, if_false, eight_eq m hm, Option.bind_some]
  have := write_from p hv (eightK 8 m) (eightK_length 8 m) ph p.length 0 (by omega)
  simpa [wS, b] using this
def lo (c : S29) : Nat := val (cn c) * 10 ^ (8 - (cn c).length)
def hi (c : S29) (ph : Int) : Nat := lo c + (if ph = 1 then 10 ^ (c.f2 - ((co c).length : Int)).toNat else 10 ^ (8 - (cn c).length))
theorem lo_lt {c : S29} (h : One c) : lo c + 10 ^ (8 - (cn c).length) ≤ 100000000 := by
  have h1 := val_lt _ h.nd
  have h2 : 10 ^ (cn c).length * 10 ^ (8 - (cn c).length) = 100000000 := by
    rw [← Nat.pow_add]
    have : (cn c).length + (8 - (cn c).length) = 8 := by have := h.n5; omega
    rw [this]
  unfold lo
  calc val (cn c) * 10 ^ (8 - (cn c).length) + 10 ^ (8 - (cn c).length) = (val (cn c) + 1) * 10 ^ (8 - (cn c).length) := by rw [Nat.add_mul]; omega
    _ ≤ 10 ^ (cn c).length * 10 ^ (8 - (cn c).length) := Nat.mul_le_mul_right _ (by omega)
    _ = 100000000 := h2
theorem hi_le {c : S29} (h : One c) (ph : Int) : lo c < hi c ph ∧ hi c ph ≤ hi c 2 ∧ hi c 2 ≤ 100000000 := by
  have h1 := lo_lt h
  have e2 : hi c 2 = lo c + 10 ^ (8 - (cn c).length) := by unfold hi; rw [if_neg (by decide)]
  have h3 := Nat.pow_pos (n := 8 - (cn c).length) (show 0 < 10 by decide)
  have h4 := Nat.pow_pos (n := (c.f2 - ((co c).length : Int)).toNat) (show 0 < 10 by decide)
  rw [e2]
  unfold hi
  split
  · have : 10 ^ (c.f2 - ((co c).length : Int)).toNat ≤ 10 ^ (8 - (cn c).length) := Nat.pow_le_pow_right (by decide) (by have := h.rm; have := h.n5; omega)
    omega
  · omega
theorem rphase_eq (ph : Int) : dialtoneref12_phase.f ph = some (okPh ph) := by
  unfold dialtoneref12_phase.f okPh
  by_cases h : ph ≥ 1
  · have : (1 : Int) ≤ ph := h
    simp [h, this]
  · have : ¬ (1 : Int) ≤ ph := h
    simp [h, this]
theorem rrange_in (p : List S29) (i : Nat) (hi' : i < p.length) (hc : One p[i]) (F : Nat) (hF : F ≤ 100000000) (n : Nat) (hn : (n : Int) = p[i].f2 - ((co p[i]).length : Int)) : ∀ m j : Nat, m + j = n → Ev (fun k => dialtoneref12_Range.l1 k p (i : Int) (F : Int) ((10 ^ j : Nat) : Int) (j : Int)) ((F : Int), ((F + 10 ^ n : Nat) : Int), 0)
  | 0, j, h => by
    refine Ev.step (fun k => by rw [dialtoneref12_Range.l1]) ?_
    have h3 : (0 : Int) ≤ i := by omega
    have h4 : (i : Int) < p.length := by omega
    have e0 : p[i].f0.size = (co p[i]).length := Lib.size_eq _
    have a1 := hc.o1; have a2 := hc.o4; have a5 := hc.l1; have a6 := hc.l7
    have hr : wrap64 (p[i].f2 - ((co p[i]).length : Int)) = (n : Int) := by rw [w64 (by omega) (by omega)]; omega
    have h1 : ¬ (j : Int) < n := by omega
    simp only [h3, h4, if_true, rd29 p i hi', dialtoneref12_local.f, Option.bind_some, e0, hr, h1, if_false]
    have hj : j = n := by omega
    have hp := pow10_small (n := n) (by omega)
    rw [hj]
    have key : (F : Int) + ((10 ^ n : Nat) : Int) = ((F + 10 ^ n : Nat) : Int) := by rw [Int.natCast_add]
    simp only [key]
    rw [wnat _ (Nat.le_trans (Nat.add_le_add hF hp) (by decide))]
    exact Ev.now _
  | m + 1, j, h => by
    refine Ev.step (fun k => by rw [dialtoneref12_Range.l1]) ?_
    have h3 : (0 : Int) ≤ i := by omega
    have h4 : (i : Int) < p.length := by omega
    have e0 : p[i].f0.size = (co p[i]).length := Lib.size_eq _
    have a1 := hc.o1; have a2 := hc.o4; have a5 := hc.l1; have a6 := hc.l7
    have hr : wrap64 (p[i].f2 - ((co p[i]).length : Int)) = (n : Int) := by rw [w64 (by omega) (by omega)]; omega
    have h1 : (j : Int) < n := by omega
    simp only [h3, h4, if_true, rd29 p i hi', dialtoneref12_local.f, Option.bind_some, e0, hr, h1, wi j (by omega)]
    have hp := pow10_small (n := j) (by omega)
    have : wrap64 (10 * ((10 ^ j : Nat) : Int)) = ((10 ^ (j + 1) : Nat) : Int) := by
      rw [Nat.pow_succ]
      generalize 10 ^ j = q at hp ⊢
      rw [w64 (by omega) (by omega)]; omega
    rw [this]
    exact rrange_in p i hi' hc F hF n hn m (j + 1) (by omega)
theorem rrange_out (p : List S29) (i : Nat) (hi' : i < p.length) (hc : One p[i]) (ph : Int) : ∀ m j : Nat, m + j = 8 → (cn p[i]).length ≤ j → Ev (fun k => dialtoneref12_Range.l0 k p (i : Int) ph ((val (cn p[i]) * 10 ^ (j - (cn p[i]).length) : Nat) : Int) ((10 ^ (j - (cn p[i]).length) : Nat) : Int) (j : Int)) ((lo p[i] : Int), (hi p[i] ph : Int), 0)
  | 0, j, h, hj => by
    refine Ev.step (fun k => by rw [dialtoneref12_Range.l0]) ?_
    have h1 : ¬ ((j : Int) < 8) := by omega
    simp only [h1, if_false]
    have a1 := hc.o1; have a2 := hc.o4; have a3 := hc.n1; have a4 := hc.n5; have a5 := hc.l1; have a6 := hc.l7; have a7 := hc.rm
    have hlo := hi_le hc ph
    have hj8 : j = 8 := by omega
    rw [hj8]
    have hF : val (cn p[i]) * 10 ^ (8 - (cn p[i]).length) = lo p[i] := rfl
    rw [hF]
    by_cases hph : ph = 1
    · simp only [hph, if_true]
      have := rrange_in p i hi' hc (lo p[i]) (by omega) (p[i].f2 - ((co p[i]).length : Int)).toNat (by omega) _ 0 (Nat.add_zero _)
      have e : hi p[i] 1 = lo p[i] + 10 ^ (p[i].f2 - ((co p[i]).length : Int)).toNat := by unfold hi; rw [if_pos rfl]
      rw [e]
      simpa using this
    · simp only [hph, if_false]
      have e : hi p[i] ph = lo p[i] + 10 ^ (8 - (cn p[i]).length) := by unfold hi; rw [if_neg hph]
      have key : (lo p[i] : Int) + ((10 ^ (8 - (cn p[i]).length) : Nat) : Int) = (hi p[i] ph : Int) := by rw [e, Int.natCast_add]
      simp only [key]
      rw [wnat _ (Nat.le_trans (Nat.le_trans hlo.2.1 hlo.2.2) (by decide))]
      exact Ev.now _
  | m + 1, j, h, hj => by
    refine Ev.step (fun k => by rw [dialtoneref12_Range.l0]) ?_
    have h1 : ((j : Int) < 8) := by omega
    simp only [h1, if_true, wi j (by omega)]
    have hlo := lo_lt hc
    have hp := pow10_small (n := j - (cn p[i]).length) (by omega)
    have e : j + 1 - (cn p[i]).length = (j - (cn p[i]).length) + 1 := by omega
    have hle : val (cn p[i]) * 10 ^ (j - (cn p[i]).length) ≤ lo p[i] := Nat.mul_le_mul_left _ (Nat.pow_le_pow_right (by decide) (by omega))
    have e1 : wrap64 (10 * ((val (cn p[i]) * 10 ^ (j - (cn p[i]).length) : Nat) : Int)) = ((val (cn p[i]) * 10 ^ (j + 1 - (cn p[i]).length) : Nat) : Int) := by
      rw [e, Nat.pow_succ, ← Nat.mul_assoc]
      have hq := Nat.le_trans hle (Nat.le_trans (Nat.le_add_right _ _) hlo)
      generalize val (cn p[i]) * 10 ^ (j - (cn p[i]).length) = q at hq ⊢
      clear hle hlo hp
      rw [w64 (by omega) (by omega)]; omega
    have e2 : wrap64 (10 * ((10 ^ (j - (cn p[i]).length) : Nat) : Int)) = ((10 ^ (j + 1 - (cn p[i]).length) : Nat) : Int) := by
      rw [e, Nat.pow_succ]
      generalize 10 ^ (j - (cn p[i]).length) = q at hp ⊢
      clear hle hlo
      rw [w64 (by omega) (by omega)]; omega
    rw [e1, e2]
    exact rrange_out p i hi' hc ph m (j + 1) (by omega) (by omega)
theorem rrange_ev (p : List S29) (hv : vp p = true) (i : Nat) (hi' : i < p.length) (ph : Int) (hp : okPh ph = true) : Ev (fun k => dialtoneref12_Range.f k p (i : Int) ph) ((lo p[i] : Int), (hi p[i] ph : Int), 0) := by
  have hl := vp_len hv
  unfold dialtoneref12_Range.f
  refine Ev.bind (rvalid_ev p (by omega) (vp_small hv)) ?_
  have h1 : ¬ (i : Int) < 0 := by omega
  have h2 : ¬ (i : Int) ≥ p.length := by omega
  simp only [hv, if_true, h1, h2, if_false, rphase_eq, hp, Option.bind_some, Bool.not_true]
  refine Ev.step (fun k => by rw [dialtoneref12_Range.j0]) ?_
  have h3 : (0 : Int) ≤ i := by omega
  have h4 : (i : Int) < p.length := by omega
  have hc := vp_one hv (List.getElem_mem hi')
  have e1 : p[i].f1.size = (cn p[i]).length := Lib.size_eq _
  have a3 := hc.n1; have a4 := hc.n5
  simp only [Bool.false_eq_true, if_false, h3, h4, if_true, rd29 p i hi']
  refine Ev.bind (value_ev p[i].f1 (by omega) hc.nd) ?_
  rw [e1]
  have := rrange_out p i hi' hc ph (8 - (cn p[i]).length) (cn p[i]).length (by omega) (Nat.le_refl _)
  simpa [cn] using this
end Go.Proofs.YtlmfoblgheepoaaGreatDoor.Pure
end
