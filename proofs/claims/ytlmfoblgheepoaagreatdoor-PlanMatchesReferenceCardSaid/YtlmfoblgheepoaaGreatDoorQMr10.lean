/- Mr: part 11 of the proof that the law's row holds: the printed walk of the program's functions, the plain law, the row. -/
import Derived.Test.YtlmfoblgheepoaaGreatDoorQMr9
section
open Go.Proofs.YtlmfoblgheepoaaGreatDoor.Z
namespace Go.Proofs.YtlmfoblgheepoaaGreatDoor.Pl
open Go.RowKit Go.Proofs.YtlmfoblgheepoaaGreatDoorW.PrintWords Go.Proofs.YtlmfoblgheepoaaGreatDoorW.PrintLast Go.Proofs.YtlmfoblgheepoaaGreatDoorW.PrintMore
attribute [local go_sem] max2_int min2_int max_two min_two max_three min_three max_four min_four
set_option linter.unusedVariables false
set_option linter.unusedSimpArgs false
def dialtoneref12_One.f (k : Nat) (a0_0 : Int) (a0_1 : Int) (a0_2 : Int) : Option (ByteArray × ByteArray × Int) := (dialtoneref12_pick.f (wrap64 (Int.tdiv a0_0 3)) 1000).bind fun t243 => ((dialtoneref12_pick.f a0_0 3).bind fun t244 => ((dialtoneref12_prefix.f k t243 (wrap64 (1 + t244))).bind fun t245 => ((dialtoneref12_pick.f (wrap64 (Int.tdiv a0_1 3)) 1000).bind fun t246 => ((dialtoneref12_pick.f a0_1 3).bind fun t247 => ((dialtoneref12_prefix.f k t246 (wrap64 (1 + t247))).bind fun t248 => ((dialtoneref12_pick.f a0_2 (mn (wrap64 (7 - (t245.size : Int))) (wrap64 (8 - (t248.size : Int))))).bind fun t250 => (some (t245, t248, wrap64 ((wrap64 ((t245.size : Int) + 1)) + t250)))))))))
def dialtoneref12_One.T1 : Bool × List (List Nat × List Nat) := (true, [([], []), ([0], [0]), ([1], [1]), ([2], [2]), ([], []), ([4], [4]), ([5, 3], [5]), ([6], [6]), ([3, 7, 6], [3, 7]), ([], []), ([9], [9]), ([10], [10]), ([11, 8], [11]), ([], []), ([13], [13]), ([14, 12], [14]), ([15], [15]), ([12, 16, 15], [12, 16]), ([8, 17], [8, 17]), ([], []), ([19, 18, 17, 0, 1, 2, 3, 4, 5, 6, 7, 8, 9, 10, 11, 12, 13, 14, 15, 16, 17, 18, 19], [18, 19])])
def dialtoneref12_One.B1 : List Nat := [0, 1, 3, 7, 0, 16, 63, 127, 255, 0, 512, 1536, 4095, 0, 8192, 32767, 65535, 131071, 262143, 0, 1048575]
theorem dialtoneref12_One.tab1 : rtab .any (opsOf Tryz.f29 1) = dialtoneref12_One.T1 := by kernel_rfl
theorem dialtoneref12_One.bits1 : waitsOk dialtoneref12_One.T1.2 dialtoneref12_One.B1 = true := by kernel_rfl
def dialtoneref12_One.T2 : Bool × List (List Nat × List Nat) := (true, [([], []), ([0], [0]), ([1], [1]), ([2], [2]), ([], []), ([4], [4]), ([], []), ([6], [6]), ([7], [7]), ([8], [8]), ([], []), ([10], [10]), ([11], [11]), ([12], [12]), ([9, 13], [9, 13]), ([5, 14], [5, 14]), ([3, 15], [3, 15]), ([0, 1, 2, 3, 4, 5, 6, 7, 8, 9, 10, 11, 12, 13, 14, 15, 16], []), ([17, 16, 15, 0, 1, 2, 3, 4, 5, 6, 7, 8, 9, 10, 11, 12, 13, 14, 15, 16], [16, 17])])
def dialtoneref12_One.B2 : List Nat := [0, 1, 3, 7, 0, 16, 0, 64, 192, 448, 0, 1024, 3072, 7168, 16320, 32752, 65535, 131071, 262143]
theorem dialtoneref12_One.tab2 : rtab .any (opsOf Tryz.f29 2) = dialtoneref12_One.T2 := by kernel_rfl
theorem dialtoneref12_One.bits2 : waitsOk dialtoneref12_One.T2.2 dialtoneref12_One.B2 = true := by kernel_rfl
set_option maxHeartbeats 8000000 in
set_option maxRecDepth 100000 in
theorem dialtoneref12_One.calls (k : Nat) (a0_0 : Int) (a0_1 : Int) (a0_2 : Int) (r1 : ByteArray) (r2 : ByteArray) (r3 : Int) (w : World) (h : dialtoneref12_One.f k a0_0 a0_1 a0_2 = some (r1, r2, r3)) :
 Calls Tryz.prog 29 #[.agg #[.int .i64 a0_0, .int .i64 a0_1, .int .i64 a0_2]] w fun e w' => e = .returned (.agg #[.string r1, .string r2, .int .i64 r3]) ∧ Below w.heap.size w w' := by
 have hu23 := Tryz.underlying23
 have hu29 := Tryz.underlying29
 have HB := Aside0.mk (Below.refl w.heap.size w)
 have H : ((dialtoneref12_pick.f (wrap64 (Int.tdiv a0_0 3)) 1000).bind fun t243 => ((dialtoneref12_pick.f a0_0 3).bind fun t244 => ((dialtoneref12_prefix.f k t243 (wrap64 (1 + t244))).bind fun t245 => ((dialtoneref12_pick.f (wrap64 (Int.tdiv a0_1 3)) 1000).bind fun t246 => ((dialtoneref12_pick.f a0_1 3).bind fun t247 => ((dialtoneref12_prefix.f k t246 (wrap64 (1 + t247))).bind fun t248 => ((dialtoneref12_pick.f a0_2 (mn (wrap64 (7 - (t245.size : Int))) (wrap64 (8 - (t248.size : Int))))).bind fun t250 => (some (t245, t248, wrap64 ((wrap64 ((t245.size : Int) + 1)) + t250)))))))))) = some (r1, r2, r3) := h
 clear h
 replace H := Option.bind_eq_some_iff.mp H
 obtain ⟨t243, A20, H⟩ := H
 replace H : ((dialtoneref12_pick.f a0_0 3).bind fun t244 => ((dialtoneref12_prefix.f k t243 (wrap64 (1 + t244))).bind fun t245 => ((dialtoneref12_pick.f (wrap64 (Int.tdiv a0_1 3)) 1000).bind fun t246 => ((dialtoneref12_pick.f a0_1 3).bind fun t247 => ((dialtoneref12_prefix.f k t246 (wrap64 (1 + t247))).bind fun t248 => ((dialtoneref12_pick.f a0_2 (mn (wrap64 (7 - (t245.size : Int))) (wrap64 (8 - (t248.size : Int))))).bind fun t250 => (some (t245, t248, wrap64 ((wrap64 ((t245.size : Int) + 1)) + t250))))))))) = some (r1, r2, r3) := H
 have A2 := Aside0.mk A20
 clear A20
 replace H := Option.bind_eq_some_iff.mp H
 obtain ⟨t244, A30, H⟩ := H
 replace H : ((dialtoneref12_prefix.f k t243 (wrap64 (1 + t244))).bind fun t245 => ((dialtoneref12_pick.f (wrap64 (Int.tdiv a0_1 3)) 1000).bind fun t246 => ((dialtoneref12_pick.f a0_1 3).bind fun t247 => ((dialtoneref12_prefix.f k t246 (wrap64 (1 + t247))).bind fun t248 => ((dialtoneref12_pick.f a0_2 (mn (wrap64 (7 - (t245.size : Int))) (wrap64 (8 - (t248.size : Int))))).bind fun t250 => (some (t245, t248, wrap64 ((wrap64 ((t245.size : Int) + 1)) + t250)))))))) = some (r1, r2, r3) := H
 have A3 := Aside0.mk A30
 clear A30
 replace H := Option.bind_eq_some_iff.mp H
 obtain ⟨t245, A40, H⟩ := H
 replace H : ((dialtoneref12_pick.f (wrap64 (Int.tdiv a0_1 3)) 1000).bind fun t246 => ((dialtoneref12_pick.f a0_1 3).bind fun t247 => ((dialtoneref12_prefix.f k t246 (wrap64 (1 + t247))).bind fun t248 => ((dialtoneref12_pick.f a0_2 (mn (wrap64 (7 - (t245.size : Int))) (wrap64 (8 - (t248.size : Int))))).bind fun t250 => (some (t245, t248, wrap64 ((wrap64 ((t245.size : Int) + 1)) + t250))))))) = some (r1, r2, r3) := H
 have A4 := Aside0.mk A40
 clear A40
 replace H := Option.bind_eq_some_iff.mp H
 obtain ⟨t246, A50, H⟩ := H
 replace H : ((dialtoneref12_pick.f a0_1 3).bind fun t247 => ((dialtoneref12_prefix.f k t246 (wrap64 (1 + t247))).bind fun t248 => ((dialtoneref12_pick.f a0_2 (mn (wrap64 (7 - (t245.size : Int))) (wrap64 (8 - (t248.size : Int))))).bind fun t250 => (some (t245, t248, wrap64 ((wrap64 ((t245.size : Int) + 1)) + t250)))))) = some (r1, r2, r3) := H
 have A5 := Aside0.mk A50
 clear A50
 replace H := Option.bind_eq_some_iff.mp H
 obtain ⟨t247, A60, H⟩ := H
 replace H : ((dialtoneref12_prefix.f k t246 (wrap64 (1 + t247))).bind fun t248 => ((dialtoneref12_pick.f a0_2 (mn (wrap64 (7 - (t245.size : Int))) (wrap64 (8 - (t248.size : Int))))).bind fun t250 => (some (t245, t248, wrap64 ((wrap64 ((t245.size : Int) + 1)) + t250))))) = some (r1, r2, r3) := H
 have A6 := Aside0.mk A60
 clear A60
 replace H := Option.bind_eq_some_iff.mp H
 obtain ⟨t248, A70, H⟩ := H
 replace H : ((dialtoneref12_pick.f a0_2 (mn (wrap64 (7 - (t245.size : Int))) (wrap64 (8 - (t248.size : Int))))).bind fun t250 => (some (t245, t248, wrap64 ((wrap64 ((t245.size : Int) + 1)) + t250)))) = some (r1, r2, r3) := H
 have A7 := Aside0.mk A70
 clear A70
 obtain ⟨ji8, hji8⟩ : ∃ j_ : Int, (mn (wrap64 (7 - (t245.size : Int))) (wrap64 (8 - (t248.size : Int)))) = j_ := ⟨_, rfl⟩
 replace H : ((dialtoneref12_pick.f a0_2 (ji8)).bind fun t250 => (some (t245, t248, wrap64 ((wrap64 ((t245.size : Int) + 1)) + t250)))) = some (r1, r2, r3) := by first | (rw [hji8] at H; exact H) | (simp only [hji8] at H ⊢; exact H)
 (try rw [hji8] at A2)
 (try rw [hji8] at A3)
 (try rw [hji8] at A4)
 (try rw [hji8] at A5)
 (try rw [hji8] at A6)
 (try rw [hji8] at A7)
 have hji8_ : (if (wrap64 (8 - (t248.size : Int))) < (wrap64 (7 - (t245.size : Int))) then (wrap64 (8 - (t248.size : Int))) else (wrap64 (7 - (t245.size : Int)))) = ji8 := hji8
 replace H := Option.bind_eq_some_iff.mp H
 obtain ⟨t250, A90, H⟩ := H
 replace H : (some (t245, t248, wrap64 ((wrap64 ((t245.size : Int) + 1)) + t250))) = some (r1, r2, r3) := H
 have A9 := Aside0.mk A90
 clear A90
 simp only [Option.some.injEq, Prod.mk.injEq] at H
 obtain ⟨rfl, rfl, rfl⟩ := H
 go_enter Tryz.func29, Tryz.ntmps29
 try go_wp2_with (first | ((with_reducible refine gate_dst (N := 1) rfl ?_); refine box_event ?hg (N := 1) ?hd (cs := #[.int .i64 a0_0, .int .i64 a0_1, .int .i64 a0_2]) (t := 23) ?hr ?_; (case hd => rfl); (case hg => rfl); (case hr => exact zq3); intro gb241 hg w10 hbox hb; have BK241 := Aside0.mk (hbox); have GW241 := Aside0.mk ((zq4 : w.heap.size ≤ gb241)); have GE241 := Aside0.mk ((zq4 : w.heap.size ≤ gb241)); replace HB := Aside0.mk (below_step (zq5) hb); clear hb hbox hg) | ((with_reducible refine gate_dst (N := 2) rfl ?_); refine box_event ?hg (N := 2) ?hd (cs := #[.string (⟨#[]⟩ : ByteArray), .string (⟨#[]⟩ : ByteArray), .int .i64 0]) (t := 29) ?hr ?_; (case hd => rfl); (case hg => rfl); (case hr => exact zq3); intro gb242 hg w11 hbox hb; have BK242 := Aside0.mk (hbox); have GW242 := Aside0.mk ((zq82 : w.heap.size ≤ gb242)); have GE242 := Aside0.mk ((zq82 : w.heap.size ≤ gb242)); replace HB := Aside0.mk (below_step (zq83) hb); have NB241_242 := Aside0.mk ((zq84 : gb241 ≠ gb242)); have NB242_241 := Aside0.mk ((zq86 : gb242 ≠ gb241)); replace BK241 := Aside0.mk (blk_below (g := gb241) (o := .cells #[.int .i64 a0_0, .int .i64 a0_1, .int .i64 a0_2] 23 (0, 0)) (zq85) hb); clear hb hbox hg))
 replace BK241 := Aside0.mk (blk_drew BK241.out)
 replace BK242 := Aside0.mk (blk_drew BK242.out)
 replace HB := Aside0.mk (below_drew1 HB.out)
 refine start_ (n := 21) (S := fun w' => w'.cell? ⟨gb241, 0, none⟩ = some (.int .i64 a0_0) ∧ w'.cell? ⟨gb241, 1, none⟩ = some (.int .i64 a0_1) ∧ w'.cell? ⟨gb241, 2, none⟩ = some (.int .i64 a0_2)) (ds := []) (bm 21 0) (by kernel_rfl) rfl rfl ⟨(blk_cell BK241.out 0).trans rfl, (blk_cell BK241.out 1).trans rfl, (blk_cell BK241.out 2).trans rfl⟩ (fun hHeld => ?_); refine with_tabW dialtoneref12_One.tab1 dialtoneref12_One.bits1 (fun HT_ HW_ => ?_)
 generalize w11.drew = w12 at BK241 BK242 HB hHeld ⊢
 refine pz 0 (some 4) (bm 21 1) HT_ ?_
 refine pz 4 (some 8) (bm 21 17) HT_ ?_
 refine pz 9 (some 13) (bm 21 529) HT_ ?_
 refine pz 13 (some 17) (bm 21 8721) HT_ ?_
 refine tz 1 (some 5) (bm 21 8723) HT_ HW_ hHeld ?_
 refine pz 2 (some 6) (bm 21 8727) HT_ ?_
 refine tz 5 (some 9) (bm 21 8759) HT_ HW_ hHeld ?_
 refine tz 10 (some 14) (bm 21 9783) HT_ HW_ hHeld ?_
 refine pz 11 (some 15) (bm 21 11831) HT_ ?_
 refine tz 14 (some 18) (bm 21 28215) HT_ HW_ hHeld ?_
 refine join_ (σ := Nat) 1 (bm 21 1048575) (fun s_ => [(7, .int .i64 t243), (10, .int .i64 t244), (12, .string t245), (16, .int .i64 t246), (19, .int .i64 t247), (21, .string t248), (3, .pointer (some ⟨s_, 0, none⟩)), (11, .int .i64 (wrap64 (1 + t244))), (20, .int .i64 (wrap64 (1 + t247))), (22, .agg #[.string t245, .string t248, .int .i64 0])]) (fun s_ w' => (w'.cell? ⟨gb241, 0, none⟩ = some (.int .i64 a0_0) ∧ w'.cell? ⟨gb241, 1, none⟩ = some (.int .i64 a0_1) ∧ w'.cell? ⟨gb241, 2, none⟩ = some (.int .i64 a0_2)) ∧ (w'.heap[gb241]? = some (.cells #[.int .i64 a0_0, .int .i64 a0_1, .int .i64 a0_2] 23 (0, 0))) ∧ (w'.heap[gb242]? = some (.cells #[.string (⟨#[]⟩ : ByteArray), .string (⟨#[]⟩ : ByteArray), .int .i64 0] 29 (0, 0))) ∧ (w'.heap[s_]? = some (.cells #[.string (⟨#[]⟩ : ByteArray), .string (⟨#[]⟩ : ByteArray), .int .i64 0] 29 (0, 0))) ∧ (w.heap.size ≤ s_) ∧ (w.heap.size ≤ s_) ∧ (gb241 ≠ s_) ∧ (s_ ≠ gb241) ∧ (gb242 ≠ s_) ∧ (s_ ≠ gb242) ∧ (Below w.heap.size w w')) ?_ ?_
 rotate_left
 ·intro hJ3_6_8_12_15_17_19
  refine join_ (σ := Unit) 2 (bm 21 524287) (fun s_ => [(7, .int .i64 t243), (10, .int .i64 t244), (12, .string t245), (16, .int .i64 t246), (19, .int .i64 t247), (21, .string t248), (11, .int .i64 (wrap64 (1 + t244))), (20, .int .i64 (wrap64 (1 + t247))), (22, .agg #[.string t245, .string t248, .int .i64 0])]) (fun s_ w' => (w'.cell? ⟨gb241, 0, none⟩ = some (.int .i64 a0_0) ∧ w'.cell? ⟨gb241, 1, none⟩ = some (.int .i64 a0_1) ∧ w'.cell? ⟨gb241, 2, none⟩ = some (.int .i64 a0_2)) ∧ (w'.heap[gb241]? = some (.cells #[.int .i64 a0_0, .int .i64 a0_1, .int .i64 a0_2] 23 (0, 0))) ∧ (w'.heap[gb242]? = some (.cells #[.string (⟨#[]⟩ : ByteArray), .string (⟨#[]⟩ : ByteArray), .int .i64 0] 29 (0, 0))) ∧ (Below w.heap.size w w')) ?_ ?_
  rotate_left
  ·intro hJ3_6_8_12_15_17
   refine join_ (σ := Nat) 3 (bm 21 655359) (fun s_ => [(7, .int .i64 t243), (10, .int .i64 t244), (12, .string t245), (16, .int .i64 t246), (19, .int .i64 t247), (3, .pointer (some ⟨s_, 0, none⟩)), (11, .int .i64 (wrap64 (1 + t244))), (20, .int .i64 (wrap64 (1 + t247)))]) (fun s_ w' => (w'.cell? ⟨gb241, 0, none⟩ = some (.int .i64 a0_0) ∧ w'.cell? ⟨gb241, 1, none⟩ = some (.int .i64 a0_1) ∧ w'.cell? ⟨gb241, 2, none⟩ = some (.int .i64 a0_2)) ∧ (w'.heap[gb241]? = some (.cells #[.int .i64 a0_0, .int .i64 a0_1, .int .i64 a0_2] 23 (0, 0))) ∧ (w'.heap[gb242]? = some (.cells #[.string (⟨#[]⟩ : ByteArray), .string (⟨#[]⟩ : ByteArray), .int .i64 0] 29 (0, 0))) ∧ (w'.heap[s_]? = some (.cells #[.string (⟨#[]⟩ : ByteArray), .string (⟨#[]⟩ : ByteArray), .int .i64 0] 29 (0, 0))) ∧ (w.heap.size ≤ s_) ∧ (w.heap.size ≤ s_) ∧ (gb241 ≠ s_) ∧ (s_ ≠ gb241) ∧ (gb242 ≠ s_) ∧ (s_ ≠ gb242) ∧ (Below w.heap.size w w')) ?_ ?_
   rotate_left
   ·intro hJ3_6_8_12_15_19
    refine join_ (σ := Unit) 4 (bm 21 131071) (fun s_ => [(7, .int .i64 t243), (10, .int .i64 t244), (12, .string t245), (16, .int .i64 t246), (19, .int .i64 t247), (11, .int .i64 (wrap64 (1 + t244))), (20, .int .i64 (wrap64 (1 + t247)))]) (fun s_ w' => (w'.cell? ⟨gb241, 0, none⟩ = some (.int .i64 a0_0) ∧ w'.cell? ⟨gb241, 1, none⟩ = some (.int .i64 a0_1) ∧ w'.cell? ⟨gb241, 2, none⟩ = some (.int .i64 a0_2)) ∧ (w'.heap[gb241]? = some (.cells #[.int .i64 a0_0, .int .i64 a0_1, .int .i64 a0_2] 23 (0, 0))) ∧ (w'.heap[gb242]? = some (.cells #[.string (⟨#[]⟩ : ByteArray), .string (⟨#[]⟩ : ByteArray), .int .i64 0] 29 (0, 0))) ∧ (Below w.heap.size w w')) ?_ ?_
    rotate_left
    ·intro hJ3_6_8_12_15
     refine join_ (σ := Nat) 5 (bm 21 557055) (fun s_ => [(7, .int .i64 t243), (10, .int .i64 t244), (12, .string t245), (16, .int .i64 t246), (3, .pointer (some ⟨s_, 0, none⟩)), (11, .int .i64 (wrap64 (1 + t244)))]) (fun s_ w' => (w'.cell? ⟨gb241, 0, none⟩ = some (.int .i64 a0_0) ∧ w'.cell? ⟨gb241, 1, none⟩ = some (.int .i64 a0_1) ∧ w'.cell? ⟨gb241, 2, none⟩ = some (.int .i64 a0_2)) ∧ (w'.heap[gb241]? = some (.cells #[.int .i64 a0_0, .int .i64 a0_1, .int .i64 a0_2] 23 (0, 0))) ∧ (w'.heap[gb242]? = some (.cells #[.string (⟨#[]⟩ : ByteArray), .string (⟨#[]⟩ : ByteArray), .int .i64 0] 29 (0, 0))) ∧ (w'.heap[s_]? = some (.cells #[.string (⟨#[]⟩ : ByteArray), .string (⟨#[]⟩ : ByteArray), .int .i64 0] 29 (0, 0))) ∧ (w.heap.size ≤ s_) ∧ (w.heap.size ≤ s_) ∧ (gb241 ≠ s_) ∧ (s_ ≠ gb241) ∧ (gb242 ≠ s_) ∧ (s_ ≠ gb242) ∧ (Below w.heap.size w w')) ?_ ?_
     rotate_left
     ·intro hJ3_6_8_12_19
      refine join_ (σ := Unit) 6 (bm 21 32767) (fun s_ => [(7, .int .i64 t243), (10, .int .i64 t244), (12, .string t245), (16, .int .i64 t246), (11, .int .i64 (wrap64 (1 + t244)))]) (fun s_ w' => (w'.cell? ⟨gb241, 0, none⟩ = some (.int .i64 a0_0) ∧ w'.cell? ⟨gb241, 1, none⟩ = some (.int .i64 a0_1) ∧ w'.cell? ⟨gb241, 2, none⟩ = some (.int .i64 a0_2)) ∧ (w'.heap[gb241]? = some (.cells #[.int .i64 a0_0, .int .i64 a0_1, .int .i64 a0_2] 23 (0, 0))) ∧ (w'.heap[gb242]? = some (.cells #[.string (⟨#[]⟩ : ByteArray), .string (⟨#[]⟩ : ByteArray), .int .i64 0] 29 (0, 0))) ∧ (Below w.heap.size w w')) ?_ ?_
      rotate_left
      ·intro hJ3_6_8_12
       refine join_ (σ := Nat) 6 (bm 21 552959) (fun s_ => [(7, .int .i64 t243), (10, .int .i64 t244), (12, .string t245), (3, .pointer (some ⟨s_, 0, none⟩)), (11, .int .i64 (wrap64 (1 + t244)))]) (fun s_ w' => (w'.cell? ⟨gb241, 0, none⟩ = some (.int .i64 a0_0) ∧ w'.cell? ⟨gb241, 1, none⟩ = some (.int .i64 a0_1) ∧ w'.cell? ⟨gb241, 2, none⟩ = some (.int .i64 a0_2)) ∧ (w'.heap[gb241]? = some (.cells #[.int .i64 a0_0, .int .i64 a0_1, .int .i64 a0_2] 23 (0, 0))) ∧ (w'.heap[gb242]? = some (.cells #[.string (⟨#[]⟩ : ByteArray), .string (⟨#[]⟩ : ByteArray), .int .i64 0] 29 (0, 0))) ∧ (w'.heap[s_]? = some (.cells #[.string (⟨#[]⟩ : ByteArray), .string (⟨#[]⟩ : ByteArray), .int .i64 0] 29 (0, 0))) ∧ (w.heap.size ≤ s_) ∧ (w.heap.size ≤ s_) ∧ (gb241 ≠ s_) ∧ (s_ ≠ gb241) ∧ (gb242 ≠ s_) ∧ (s_ ≠ gb242) ∧ (Below w.heap.size w w')) ?_ ?_
       rotate_left
       ·intro hJ3_6_8_19
        refine join_ (σ := Unit) 7 (bm 21 28671) (fun s_ => [(7, .int .i64 t243), (10, .int .i64 t244), (12, .string t245), (11, .int .i64 (wrap64 (1 + t244)))]) (fun s_ w' => (w'.cell? ⟨gb241, 0, none⟩ = some (.int .i64 a0_0) ∧ w'.cell? ⟨gb241, 1, none⟩ = some (.int .i64 a0_1) ∧ w'.cell? ⟨gb241, 2, none⟩ = some (.int .i64 a0_2)) ∧ (w'.heap[gb241]? = some (.cells #[.int .i64 a0_0, .int .i64 a0_1, .int .i64 a0_2] 23 (0, 0))) ∧ (w'.heap[gb242]? = some (.cells #[.string (⟨#[]⟩ : ByteArray), .string (⟨#[]⟩ : ByteArray), .int .i64 0] 29 (0, 0))) ∧ (Below w.heap.size w w')) ?_ ?_
        rotate_left
        ·intro hJ3_6_8
         refine join_ (σ := Nat) 7 (bm 21 552703) (fun s_ => [(7, .int .i64 t243), (10, .int .i64 t244), (3, .pointer (some ⟨s_, 0, none⟩)), (11, .int .i64 (wrap64 (1 + t244)))]) (fun s_ w' => (w'.cell? ⟨gb241, 0, none⟩ = some (.int .i64 a0_0) ∧ w'.cell? ⟨gb241, 1, none⟩ = some (.int .i64 a0_1) ∧ w'.cell? ⟨gb241, 2, none⟩ = some (.int .i64 a0_2)) ∧ (w'.heap[gb241]? = some (.cells #[.int .i64 a0_0, .int .i64 a0_1, .int .i64 a0_2] 23 (0, 0))) ∧ (w'.heap[gb242]? = some (.cells #[.string (⟨#[]⟩ : ByteArray), .string (⟨#[]⟩ : ByteArray), .int .i64 0] 29 (0, 0))) ∧ (w'.heap[s_]? = some (.cells #[.string (⟨#[]⟩ : ByteArray), .string (⟨#[]⟩ : ByteArray), .int .i64 0] 29 (0, 0))) ∧ (w.heap.size ≤ s_) ∧ (w.heap.size ≤ s_) ∧ (gb241 ≠ s_) ∧ (s_ ≠ gb241) ∧ (gb242 ≠ s_) ∧ (s_ ≠ gb242) ∧ (Below w.heap.size w w')) ?_ ?_
         rotate_left
         ·intro hJ3_6_19
          refine join_ (σ := Unit) 8 (bm 21 28415) (fun s_ => [(7, .int .i64 t243), (10, .int .i64 t244), (11, .int .i64 (wrap64 (1 + t244)))]) (fun s_ w' => (w'.cell? ⟨gb241, 0, none⟩ = some (.int .i64 a0_0) ∧ w'.cell? ⟨gb241, 1, none⟩ = some (.int .i64 a0_1) ∧ w'.cell? ⟨gb241, 2, none⟩ = some (.int .i64 a0_2)) ∧ (w'.heap[gb241]? = some (.cells #[.int .i64 a0_0, .int .i64 a0_1, .int .i64 a0_2] 23 (0, 0))) ∧ (w'.heap[gb242]? = some (.cells #[.string (⟨#[]⟩ : ByteArray), .string (⟨#[]⟩ : ByteArray), .int .i64 0] 29 (0, 0))) ∧ (Below w.heap.size w w')) ?_ ?_
          rotate_left
          ·intro hJ3_6
           refine join_ (σ := Nat) 9 (bm 21 552511) (fun s_ => [(7, .int .i64 t243), (3, .pointer (some ⟨s_, 0, none⟩))]) (fun s_ w' => (w'.cell? ⟨gb241, 0, none⟩ = some (.int .i64 a0_0) ∧ w'.cell? ⟨gb241, 1, none⟩ = some (.int .i64 a0_1) ∧ w'.cell? ⟨gb241, 2, none⟩ = some (.int .i64 a0_2)) ∧ (w'.heap[gb241]? = some (.cells #[.int .i64 a0_0, .int .i64 a0_1, .int .i64 a0_2] 23 (0, 0))) ∧ (w'.heap[gb242]? = some (.cells #[.string (⟨#[]⟩ : ByteArray), .string (⟨#[]⟩ : ByteArray), .int .i64 0] 29 (0, 0))) ∧ (w'.heap[s_]? = some (.cells #[.string (⟨#[]⟩ : ByteArray), .string (⟨#[]⟩ : ByteArray), .int .i64 0] 29 (0, 0))) ∧ (w.heap.size ≤ s_) ∧ (w.heap.size ≤ s_) ∧ (gb241 ≠ s_) ∧ (s_ ≠ gb241) ∧ (gb242 ≠ s_) ∧ (s_ ≠ gb242) ∧ (Below w.heap.size w w')) ?_ ?_
           rotate_left
           ·intro hJ3_19
            refine join_ (σ := Unit) 10 (bm 21 28223) (fun s_ => [(7, .int .i64 t243)]) (fun s_ w' => (w'.cell? ⟨gb241, 0, none⟩ = some (.int .i64 a0_0) ∧ w'.cell? ⟨gb241, 1, none⟩ = some (.int .i64 a0_1) ∧ w'.cell? ⟨gb241, 2, none⟩ = some (.int .i64 a0_2)) ∧ (w'.heap[gb241]? = some (.cells #[.int .i64 a0_0, .int .i64 a0_1, .int .i64 a0_2] 23 (0, 0))) ∧ (w'.heap[gb242]? = some (.cells #[.string (⟨#[]⟩ : ByteArray), .string (⟨#[]⟩ : ByteArray), .int .i64 0] 29 (0, 0))) ∧ (Below w.heap.size w w')) ?_ ?_
            rotate_left
            ·intro hJ3
             refine join_ (σ := Nat) 10 (bm 21 552503) (fun s_ => [(3, .pointer (some ⟨s_, 0, none⟩))]) (fun s_ w' => (w'.cell? ⟨gb241, 0, none⟩ = some (.int .i64 a0_0) ∧ w'.cell? ⟨gb241, 1, none⟩ = some (.int .i64 a0_1) ∧ w'.cell? ⟨gb241, 2, none⟩ = some (.int .i64 a0_2)) ∧ (w'.heap[gb241]? = some (.cells #[.int .i64 a0_0, .int .i64 a0_1, .int .i64 a0_2] 23 (0, 0))) ∧ (w'.heap[gb242]? = some (.cells #[.string (⟨#[]⟩ : ByteArray), .string (⟨#[]⟩ : ByteArray), .int .i64 0] 29 (0, 0))) ∧ (w'.heap[s_]? = some (.cells #[.string (⟨#[]⟩ : ByteArray), .string (⟨#[]⟩ : ByteArray), .int .i64 0] 29 (0, 0))) ∧ (w.heap.size ≤ s_) ∧ (w.heap.size ≤ s_) ∧ (gb241 ≠ s_) ∧ (s_ ≠ gb241) ∧ (gb242 ≠ s_) ∧ (s_ ≠ gb242) ∧ (Below w.heap.size w w')) ?_ ?_
             rotate_left
             ·intro hJ19
              refine two_ (i := 3) (j := 19) (Ni := some 7) (Nj := some 3) (bm 21 28223) (bm 21 552503) rfl rfl rfl rfl (two_of HT_.out (by kernel_rfl)) (by decide) (by decide) (fun K hK => ?_) (fun K hK => ?_)
              ·skip
               refine goes_ Tryz.func33 (by kernel_rfl) rfl #[.int .i64 (wrap64 (Int.tdiv a0_0 3)), .int .i64 1000] (by rfl) rfl rfl (zq7) ?_
               with_reducible refine (dialtoneref12_pick.calls (wrap64 (Int.tdiv a0_0 3)) 1000 t243 _ A2.out).mono ?_
               rintro e w' ⟨rfl, ⟨nd, rfl⟩⟩
               refine ⟨_, rfl, ?_⟩
               refine hK.out _ _ ⟨(blk_cell BK241.out 0).trans rfl, (blk_cell BK241.out 1).trans rfl, (blk_cell BK241.out 2).trans rfl⟩ (fun hHeld => ?_)
               clear hK K
               refine nz (some 7) ?_
               exact norm_ (zq87) (hJ3 () _ ⟨hHeld, (zq85), (zq88), (zq89)⟩)
              ·skip
               refine box_step ?hg (N := 3) ?hd (cs := #[.string (⟨#[]⟩ : ByteArray), .string (⟨#[]⟩ : ByteArray), .int .i64 0]) (t := 29) ?hr ?_; (case hd => rfl); (case hg => rfl); (case hr => exact zq3)
               intro gb249 hg w13 hbox hb
               have BK249 := Aside0.mk (hbox)
               have GW249 := Aside0.mk ((zq90 : w.heap.size ≤ gb249))
               have GE249 := Aside0.mk ((zq90 : w.heap.size ≤ gb249))
               replace HB := Aside0.mk (below_step (zq89) hb)
               have NB241_249 := Aside0.mk ((zq84 : gb241 ≠ gb249))
               have NB249_241 := Aside0.mk ((zq86 : gb249 ≠ gb241))
               replace BK241 := Aside0.mk (blk_below (g := gb241) (o := .cells #[.int .i64 a0_0, .int .i64 a0_1, .int .i64 a0_2] 23 (0, 0)) (zq85) hb)
               have NB242_249 := Aside0.mk ((zq91 : gb242 ≠ gb249))
               have NB249_242 := Aside0.mk ((zq92 : gb249 ≠ gb242))
               replace BK242 := Aside0.mk (blk_below (g := gb242) (o := .cells #[.string (⟨#[]⟩ : ByteArray), .string (⟨#[]⟩ : ByteArray), .int .i64 0] 29 (0, 0)) (zq88) hb)
               clear hb hbox hg
               refine hK.out _ _ ⟨(blk_cell BK241.out 0).trans rfl, (blk_cell BK241.out 1).trans rfl, (blk_cell BK241.out 2).trans rfl⟩ (fun hHeld => ?_)
               clear hK K
               refine nz (some 3) ?_
               exact norm_ (zq87) (hJ19 (gb249) _ ⟨hHeld, (zq85), (zq88), (zq93), GW249.out, GE249.out, NB241_249.out, NB249_241.out, NB242_249.out, NB249_242.out, (zq94)⟩)
             ·skip
              rintro gb249 w14 ⟨hS_, h0_, h1_, h2_, h3_, h4_, h5_, h6_, h7_, h8_, h9_⟩
              replace BK241 : Aside0 (w14.heap[gb241]? = some (.cells #[.int .i64 a0_0, .int .i64 a0_1, .int .i64 a0_2] 23 (0, 0))) := ⟨h0_⟩
              replace BK242 : Aside0 (w14.heap[gb242]? = some (.cells #[.string (⟨#[]⟩ : ByteArray), .string (⟨#[]⟩ : ByteArray), .int .i64 0] 29 (0, 0))) := ⟨h1_⟩
              have BK249 : Aside0 (w14.heap[gb249]? = some (.cells #[.string (⟨#[]⟩ : ByteArray), .string (⟨#[]⟩ : ByteArray), .int .i64 0] 29 (0, 0))) := ⟨h2_⟩
              have GW249 : Aside0 (w.heap.size ≤ gb249) := ⟨h3_⟩
              have GE249 : Aside0 (w.heap.size ≤ gb249) := ⟨h4_⟩
              have NB241_249 : Aside0 (gb241 ≠ gb249) := ⟨h5_⟩
              have NB249_241 : Aside0 (gb249 ≠ gb241) := ⟨h6_⟩
              have NB242_249 : Aside0 (gb242 ≠ gb249) := ⟨h7_⟩
              have NB249_242 : Aside0 (gb249 ≠ gb242) := ⟨h8_⟩
              replace HB : Aside0 (Below w.heap.size w w14) := ⟨h9_⟩
              clear h0_ h1_ h2_ h3_ h4_ h5_ h6_ h7_ h8_ h9_
              have hHeld : w14.cell? ⟨gb241, 0, none⟩ = some (.int .i64 a0_0) ∧ w14.cell? ⟨gb241, 1, none⟩ = some (.int .i64 a0_1) ∧ w14.cell? ⟨gb241, 2, none⟩ = some (.int .i64 a0_2) := hS_
              refine norm_ (a' := ?_) ?_ ?_
              rotate_left
              ·simp only [putAll, Act.put, List.setIfInBounds_toArray, List.set_cons_zero, List.set_cons_succ]
               rfl
              refine one_ (i := 3) (N := some 7) (bm 21 552511) rfl rfl (one_of HT_.out (by kernel_rfl)) (by decide) (fun K hK => ?_)
              refine goes_ Tryz.func33 (by kernel_rfl) rfl #[.int .i64 (wrap64 (Int.tdiv a0_0 3)), .int .i64 1000] (by rfl) rfl rfl (zq7) ?_
              with_reducible refine (dialtoneref12_pick.calls (wrap64 (Int.tdiv a0_0 3)) 1000 t243 _ A2.out).mono ?_
              rintro e w' ⟨rfl, ⟨nd, rfl⟩⟩
              refine ⟨_, rfl, ?_⟩
              refine hK.out _ _ ⟨(blk_cell BK241.out 0).trans rfl, (blk_cell BK241.out 1).trans rfl, (blk_cell BK241.out 2).trans rfl⟩ (fun hHeld => ?_)
              clear hK K
              refine nz (some 7) ?_
              exact norm_ (zq87) (hJ3_19 (gb249) _ ⟨hHeld, (zq85), (zq88), (zq93), GW249.out, GE249.out, NB241_249.out, NB249_241.out, NB242_249.out, NB249_242.out, (zq94)⟩)
            ·skip
             rintro _ w13 ⟨hS_, h0_, h1_, h2_⟩
             replace BK241 : Aside0 (w13.heap[gb241]? = some (.cells #[.int .i64 a0_0, .int .i64 a0_1, .int .i64 a0_2] 23 (0, 0))) := ⟨h0_⟩
             replace BK242 : Aside0 (w13.heap[gb242]? = some (.cells #[.string (⟨#[]⟩ : ByteArray), .string (⟨#[]⟩ : ByteArray), .int .i64 0] 29 (0, 0))) := ⟨h1_⟩
             replace HB : Aside0 (Below w.heap.size w w13) := ⟨h2_⟩
             clear h0_ h1_ h2_
             have hHeld : w13.cell? ⟨gb241, 0, none⟩ = some (.int .i64 a0_0) ∧ w13.cell? ⟨gb241, 1, none⟩ = some (.int .i64 a0_1) ∧ w13.cell? ⟨gb241, 2, none⟩ = some (.int .i64 a0_2) := hS_
             refine norm_ (a' := ?_) ?_ ?_
             rotate_left
             ·simp only [putAll, Act.put, List.setIfInBounds_toArray, List.set_cons_zero, List.set_cons_succ]
              rfl
             refine two_ (i := 6) (j := 19) (Ni := some 10) (Nj := some 3) (bm 21 28287) (bm 21 552511) rfl rfl rfl rfl (two_of HT_.out (by kernel_rfl)) (by decide) (by decide) (fun K hK => ?_) (fun K hK => ?_)
             ·skip
              refine goes_ Tryz.func33 (by kernel_rfl) rfl #[.int .i64 a0_0, .int .i64 3] (by rfl) rfl rfl (zq7) ?_
              with_reducible refine (dialtoneref12_pick.calls a0_0 3 t244 _ A3.out).mono ?_
              rintro e w' ⟨rfl, ⟨nd, rfl⟩⟩
              refine ⟨_, rfl, ?_⟩
              refine hK.out _ _ ⟨(blk_cell BK241.out 0).trans rfl, (blk_cell BK241.out 1).trans rfl, (blk_cell BK241.out 2).trans rfl⟩ (fun hHeld => ?_)
              clear hK K
              refine nz (some 10) ?_
              refine pz 7 (some 11) (bm 21 28415) HT_ ?_
              exact norm_ (zq87) (hJ3_6 () _ ⟨hHeld, (zq85), (zq88), (zq89)⟩)
             ·skip
              refine box_step ?hg (N := 3) ?hd (cs := #[.string (⟨#[]⟩ : ByteArray), .string (⟨#[]⟩ : ByteArray), .int .i64 0]) (t := 29) ?hr ?_; (case hd => rfl); (case hg => rfl); (case hr => exact zq3)
              intro gb249 hg w14 hbox hb
              have BK249 := Aside0.mk (hbox)
              have GW249 := Aside0.mk ((zq90 : w.heap.size ≤ gb249))
              have GE249 := Aside0.mk ((zq90 : w.heap.size ≤ gb249))
              replace HB := Aside0.mk (below_step (zq89) hb)
              have NB241_249 := Aside0.mk ((zq84 : gb241 ≠ gb249))
              have NB249_241 := Aside0.mk ((zq86 : gb249 ≠ gb241))
              replace BK241 := Aside0.mk (blk_below (g := gb241) (o := .cells #[.int .i64 a0_0, .int .i64 a0_1, .int .i64 a0_2] 23 (0, 0)) (zq85) hb)
              have NB242_249 := Aside0.mk ((zq91 : gb242 ≠ gb249))
              have NB249_242 := Aside0.mk ((zq92 : gb249 ≠ gb242))
              replace BK242 := Aside0.mk (blk_below (g := gb242) (o := .cells #[.string (⟨#[]⟩ : ByteArray), .string (⟨#[]⟩ : ByteArray), .int .i64 0] 29 (0, 0)) (zq88) hb)
              clear hb hbox hg
              refine hK.out _ _ ⟨(blk_cell BK241.out 0).trans rfl, (blk_cell BK241.out 1).trans rfl, (blk_cell BK241.out 2).trans rfl⟩ (fun hHeld => ?_)
              clear hK K
              refine nz (some 3) ?_
              exact norm_ (zq87) (hJ3_19 (gb249) _ ⟨hHeld, (zq85), (zq88), (zq93), GW249.out, GE249.out, NB241_249.out, NB249_241.out, NB242_249.out, NB249_242.out, (zq94)⟩)
           ·skip
            rintro gb249 w14 ⟨hS_, h0_, h1_, h2_, h3_, h4_, h5_, h6_, h7_, h8_, h9_⟩
            replace BK241 : Aside0 (w14.heap[gb241]? = some (.cells #[.int .i64 a0_0, .int .i64 a0_1, .int .i64 a0_2] 23 (0, 0))) := ⟨h0_⟩
            replace BK242 : Aside0 (w14.heap[gb242]? = some (.cells #[.string (⟨#[]⟩ : ByteArray), .string (⟨#[]⟩ : ByteArray), .int .i64 0] 29 (0, 0))) := ⟨h1_⟩
            have BK249 : Aside0 (w14.heap[gb249]? = some (.cells #[.string (⟨#[]⟩ : ByteArray), .string (⟨#[]⟩ : ByteArray), .int .i64 0] 29 (0, 0))) := ⟨h2_⟩
            have GW249 : Aside0 (w.heap.size ≤ gb249) := ⟨h3_⟩
            have GE249 : Aside0 (w.heap.size ≤ gb249) := ⟨h4_⟩
            have NB241_249 : Aside0 (gb241 ≠ gb249) := ⟨h5_⟩
            have NB249_241 : Aside0 (gb249 ≠ gb241) := ⟨h6_⟩
            have NB242_249 : Aside0 (gb242 ≠ gb249) := ⟨h7_⟩
            have NB249_242 : Aside0 (gb249 ≠ gb242) := ⟨h8_⟩
            replace HB : Aside0 (Below w.heap.size w w14) := ⟨h9_⟩
            clear h0_ h1_ h2_ h3_ h4_ h5_ h6_ h7_ h8_ h9_
            have hHeld : w14.cell? ⟨gb241, 0, none⟩ = some (.int .i64 a0_0) ∧ w14.cell? ⟨gb241, 1, none⟩ = some (.int .i64 a0_1) ∧ w14.cell? ⟨gb241, 2, none⟩ = some (.int .i64 a0_2) := hS_
            refine norm_ (a' := ?_) ?_ ?_
            rotate_left
            ·simp only [putAll, Act.put, List.setIfInBounds_toArray, List.set_cons_zero, List.set_cons_succ]
             rfl
            refine one_ (i := 6) (N := some 10) (bm 21 552575) rfl rfl (one_of HT_.out (by kernel_rfl)) (by decide) (fun K hK => ?_)
            refine goes_ Tryz.func33 (by kernel_rfl) rfl #[.int .i64 a0_0, .int .i64 3] (by rfl) rfl rfl (zq7) ?_
            with_reducible refine (dialtoneref12_pick.calls a0_0 3 t244 _ A3.out).mono ?_
            rintro e w' ⟨rfl, ⟨nd, rfl⟩⟩
            refine ⟨_, rfl, ?_⟩
            refine hK.out _ _ ⟨(blk_cell BK241.out 0).trans rfl, (blk_cell BK241.out 1).trans rfl, (blk_cell BK241.out 2).trans rfl⟩ (fun hHeld => ?_)
            clear hK K
            refine nz (some 10) ?_
            refine pz 7 (some 11) (bm 21 552703) HT_ ?_
            exact norm_ (zq87) (hJ3_6_19 (gb249) _ ⟨hHeld, (zq85), (zq88), (zq93), GW249.out, GE249.out, NB241_249.out, NB249_241.out, NB242_249.out, NB249_242.out, (zq94)⟩)
          ·skip
           rintro _ w13 ⟨hS_, h0_, h1_, h2_⟩
           replace BK241 : Aside0 (w13.heap[gb241]? = some (.cells #[.int .i64 a0_0, .int .i64 a0_1, .int .i64 a0_2] 23 (0, 0))) := ⟨h0_⟩
           replace BK242 : Aside0 (w13.heap[gb242]? = some (.cells #[.string (⟨#[]⟩ : ByteArray), .string (⟨#[]⟩ : ByteArray), .int .i64 0] 29 (0, 0))) := ⟨h1_⟩
           replace HB : Aside0 (Below w.heap.size w w13) := ⟨h2_⟩
           clear h0_ h1_ h2_
           have hHeld : w13.cell? ⟨gb241, 0, none⟩ = some (.int .i64 a0_0) ∧ w13.cell? ⟨gb241, 1, none⟩ = some (.int .i64 a0_1) ∧ w13.cell? ⟨gb241, 2, none⟩ = some (.int .i64 a0_2) := hS_
           refine norm_ (a' := ?_) ?_ ?_
           rotate_left
           ·simp only [putAll, Act.put, List.setIfInBounds_toArray, List.set_cons_zero, List.set_cons_succ]
            rfl
           refine two_ (i := 8) (j := 19) (Ni := some 12) (Nj := some 3) (bm 21 28671) (bm 21 552703) rfl rfl rfl rfl (two_of HT_.out (by kernel_rfl)) (by decide) (by decide) (fun K hK => ?_) (fun K hK => ?_)
           ·skip
            refine goes_ Tryz.func34 (by kernel_rfl) rfl #[.int .i64 t243, .int .i64 (wrap64 (1 + t244))] (by rfl) rfl rfl (zq7) ?_
            with_reducible refine (dialtoneref12_prefix.calls k t243 (wrap64 (1 + t244)) t245 _ A4.out).mono ?_
            rintro e w14 ⟨rfl, hb⟩
            refine ⟨_, rfl, ?_⟩
            replace BK241 := Aside0.mk (blk_below (g := gb241) (o := .cells #[.int .i64 a0_0, .int .i64 a0_1, .int .i64 a0_2] 23 (0, 0)) (zq85) hb)
            replace BK242 := Aside0.mk (blk_below (g := gb242) (o := .cells #[.string (⟨#[]⟩ : ByteArray), .string (⟨#[]⟩ : ByteArray), .int .i64 0] 29 (0, 0)) (zq88) hb)
            replace HB := Aside0.mk (below_step (zq89) hb)
            (try clear hb)
            (try clear hb2)
            (try clear hk)
            (try clear hi)
            refine hK.out _ _ ⟨(blk_cell BK241.out 0).trans rfl, (blk_cell BK241.out 1).trans rfl, (blk_cell BK241.out 2).trans rfl⟩ (fun hHeld => ?_)
            clear hK K
            refine nz (some 12) ?_
            exact norm_ (zq87) (hJ3_6_8 () _ ⟨hHeld, (zq85), (zq88), (zq89)⟩)
           ·skip
            refine box_step ?hg (N := 3) ?hd (cs := #[.string (⟨#[]⟩ : ByteArray), .string (⟨#[]⟩ : ByteArray), .int .i64 0]) (t := 29) ?hr ?_; (case hd => rfl); (case hg => rfl); (case hr => exact zq3)
            intro gb249 hg w14 hbox hb
            have BK249 := Aside0.mk (hbox)
            have GW249 := Aside0.mk ((zq90 : w.heap.size ≤ gb249))
            have GE249 := Aside0.mk ((zq90 : w.heap.size ≤ gb249))
            replace HB := Aside0.mk (below_step (zq89) hb)
            have NB241_249 := Aside0.mk ((zq84 : gb241 ≠ gb249))
            have NB249_241 := Aside0.mk ((zq86 : gb249 ≠ gb241))
            replace BK241 := Aside0.mk (blk_below (g := gb241) (o := .cells #[.int .i64 a0_0, .int .i64 a0_1, .int .i64 a0_2] 23 (0, 0)) (zq85) hb)
            have NB242_249 := Aside0.mk ((zq91 : gb242 ≠ gb249))
            have NB249_242 := Aside0.mk ((zq92 : gb249 ≠ gb242))
            replace BK242 := Aside0.mk (blk_below (g := gb242) (o := .cells #[.string (⟨#[]⟩ : ByteArray), .string (⟨#[]⟩ : ByteArray), .int .i64 0] 29 (0, 0)) (zq88) hb)
            clear hb hbox hg
            refine hK.out _ _ ⟨(blk_cell BK241.out 0).trans rfl, (blk_cell BK241.out 1).trans rfl, (blk_cell BK241.out 2).trans rfl⟩ (fun hHeld => ?_)
            clear hK K
            refine nz (some 3) ?_
            exact norm_ (zq87) (hJ3_6_19 (gb249) _ ⟨hHeld, (zq85), (zq88), (zq93), GW249.out, GE249.out, NB241_249.out, NB249_241.out, NB242_249.out, NB249_242.out, (zq94)⟩)
         ·skip
          rintro gb249 w14 ⟨hS_, h0_, h1_, h2_, h3_, h4_, h5_, h6_, h7_, h8_, h9_⟩
          replace BK241 : Aside0 (w14.heap[gb241]? = some (.cells #[.int .i64 a0_0, .int .i64 a0_1, .int .i64 a0_2] 23 (0, 0))) := ⟨h0_⟩
          replace BK242 : Aside0 (w14.heap[gb242]? = some (.cells #[.string (⟨#[]⟩ : ByteArray), .string (⟨#[]⟩ : ByteArray), .int .i64 0] 29 (0, 0))) := ⟨h1_⟩
          have BK249 : Aside0 (w14.heap[gb249]? = some (.cells #[.string (⟨#[]⟩ : ByteArray), .string (⟨#[]⟩ : ByteArray), .int .i64 0] 29 (0, 0))) := ⟨h2_⟩
          have GW249 : Aside0 (w.heap.size ≤ gb249) := ⟨h3_⟩
          have GE249 : Aside0 (w.heap.size ≤ gb249) := ⟨h4_⟩
          have NB241_249 : Aside0 (gb241 ≠ gb249) := ⟨h5_⟩
          have NB249_241 : Aside0 (gb249 ≠ gb241) := ⟨h6_⟩
          have NB242_249 : Aside0 (gb242 ≠ gb249) := ⟨h7_⟩
          have NB249_242 : Aside0 (gb249 ≠ gb242) := ⟨h8_⟩
          replace HB : Aside0 (Below w.heap.size w w14) := ⟨h9_⟩
          clear h0_ h1_ h2_ h3_ h4_ h5_ h6_ h7_ h8_ h9_
          have hHeld : w14.cell? ⟨gb241, 0, none⟩ = some (.int .i64 a0_0) ∧ w14.cell? ⟨gb241, 1, none⟩ = some (.int .i64 a0_1) ∧ w14.cell? ⟨gb241, 2, none⟩ = some (.int .i64 a0_2) := hS_
          refine norm_ (a' := ?_) ?_ ?_
          rotate_left
          ·simp only [putAll, Act.put, List.setIfInBounds_toArray, List.set_cons_zero, List.set_cons_succ]
           rfl
          refine one_ (i := 8) (N := some 12) (bm 21 552959) rfl rfl (one_of HT_.out (by kernel_rfl)) (by decide) (fun K hK => ?_)
          refine goes_ Tryz.func34 (by kernel_rfl) rfl #[.int .i64 t243, .int .i64 (wrap64 (1 + t244))] (by rfl) rfl rfl (zq7) ?_
          with_reducible refine (dialtoneref12_prefix.calls k t243 (wrap64 (1 + t244)) t245 _ A4.out).mono ?_
          rintro e w15 ⟨rfl, hb⟩
          refine ⟨_, rfl, ?_⟩
          replace BK241 := Aside0.mk (blk_below (g := gb241) (o := .cells #[.int .i64 a0_0, .int .i64 a0_1, .int .i64 a0_2] 23 (0, 0)) (zq85) hb)
          replace BK242 := Aside0.mk (blk_below (g := gb242) (o := .cells #[.string (⟨#[]⟩ : ByteArray), .string (⟨#[]⟩ : ByteArray), .int .i64 0] 29 (0, 0)) (zq88) hb)
          replace BK249 := Aside0.mk (blk_below (g := gb249) (o := .cells #[.string (⟨#[]⟩ : ByteArray), .string (⟨#[]⟩ : ByteArray), .int .i64 0] 29 (0, 0)) (zq93) hb)
          replace HB := Aside0.mk (below_step (zq94) hb)
          (try clear hb)
          (try clear hb2)
          (try clear hk)
          (try clear hi)
          refine hK.out _ _ ⟨(blk_cell BK241.out 0).trans rfl, (blk_cell BK241.out 1).trans rfl, (blk_cell BK241.out 2).trans rfl⟩ (fun hHeld => ?_)
          clear hK K
          refine nz (some 12) ?_
          exact norm_ (zq87) (hJ3_6_8_19 (gb249) _ ⟨hHeld, (zq85), (zq88), (zq93), GW249.out, GE249.out, NB241_249.out, NB249_241.out, NB242_249.out, NB249_242.out, (zq94)⟩)
        ·skip
         rintro _ w14 ⟨hS_, h0_, h1_, h2_⟩
         replace BK241 : Aside0 (w14.heap[gb241]? = some (.cells #[.int .i64 a0_0, .int .i64 a0_1, .int .i64 a0_2] 23 (0, 0))) := ⟨h0_⟩
         replace BK242 : Aside0 (w14.heap[gb242]? = some (.cells #[.string (⟨#[]⟩ : ByteArray), .string (⟨#[]⟩ : ByteArray), .int .i64 0] 29 (0, 0))) := ⟨h1_⟩
         replace HB : Aside0 (Below w.heap.size w w14) := ⟨h2_⟩
         clear h0_ h1_ h2_
         have hHeld : w14.cell? ⟨gb241, 0, none⟩ = some (.int .i64 a0_0) ∧ w14.cell? ⟨gb241, 1, none⟩ = some (.int .i64 a0_1) ∧ w14.cell? ⟨gb241, 2, none⟩ = some (.int .i64 a0_2) := hS_
         refine norm_ (a' := ?_) ?_ ?_
         rotate_left
         ·simp only [putAll, Act.put, List.setIfInBounds_toArray, List.set_cons_zero, List.set_cons_succ]
          rfl
         refine two_ (i := 12) (j := 19) (Ni := some 16) (Nj := some 3) (bm 21 32767) (bm 21 552959) rfl rfl rfl rfl (two_of HT_.out (by kernel_rfl)) (by decide) (by decide) (fun K hK => ?_) (fun K hK => ?_)
         ·skip
          refine goes_ Tryz.func33 (by kernel_rfl) rfl #[.int .i64 (wrap64 (Int.tdiv a0_1 3)), .int .i64 1000] (by rfl) rfl rfl (zq7) ?_
          with_reducible refine (dialtoneref12_pick.calls (wrap64 (Int.tdiv a0_1 3)) 1000 t246 _ A5.out).mono ?_
          rintro e w' ⟨rfl, ⟨nd, rfl⟩⟩
          refine ⟨_, rfl, ?_⟩
          refine hK.out _ _ ⟨(blk_cell BK241.out 0).trans rfl, (blk_cell BK241.out 1).trans rfl, (blk_cell BK241.out 2).trans rfl⟩ (fun hHeld => ?_)
          clear hK K
          refine nz (some 16) ?_
          exact norm_ (zq87) (hJ3_6_8_12 () _ ⟨hHeld, (zq85), (zq88), (zq89)⟩)
         ·skip
          refine box_step ?hg (N := 3) ?hd (cs := #[.string (⟨#[]⟩ : ByteArray), .string (⟨#[]⟩ : ByteArray), .int .i64 0]) (t := 29) ?hr ?_; (case hd => rfl); (case hg => rfl); (case hr => exact zq3)
          intro gb249 hg w15 hbox hb
          have BK249 := Aside0.mk (hbox)
          have GW249 := Aside0.mk ((zq90 : w.heap.size ≤ gb249))
          have GE249 := Aside0.mk ((zq90 : w.heap.size ≤ gb249))
          replace HB := Aside0.mk (below_step (zq89) hb)
          have NB241_249 := Aside0.mk ((zq84 : gb241 ≠ gb249))
          have NB249_241 := Aside0.mk ((zq86 : gb249 ≠ gb241))
          replace BK241 := Aside0.mk (blk_below (g := gb241) (o := .cells #[.int .i64 a0_0, .int .i64 a0_1, .int .i64 a0_2] 23 (0, 0)) (zq85) hb)
          have NB242_249 := Aside0.mk ((zq91 : gb242 ≠ gb249))
          have NB249_242 := Aside0.mk ((zq92 : gb249 ≠ gb242))
          replace BK242 := Aside0.mk (blk_below (g := gb242) (o := .cells #[.string (⟨#[]⟩ : ByteArray), .string (⟨#[]⟩ : ByteArray), .int .i64 0] 29 (0, 0)) (zq88) hb)
          clear hb hbox hg
          refine hK.out _ _ ⟨(blk_cell BK241.out 0).trans rfl, (blk_cell BK241.out 1).trans rfl, (blk_cell BK241.out 2).trans rfl⟩ (fun hHeld => ?_)
          clear hK K
          refine nz (some 3) ?_
          exact norm_ (zq87) (hJ3_6_8_19 (gb249) _ ⟨hHeld, (zq85), (zq88), (zq93), GW249.out, GE249.out, NB241_249.out, NB249_241.out, NB242_249.out, NB249_242.out, (zq94)⟩)
       ·skip
        rintro gb249 w15 ⟨hS_, h0_, h1_, h2_, h3_, h4_, h5_, h6_, h7_, h8_, h9_⟩
        replace BK241 : Aside0 (w15.heap[gb241]? = some (.cells #[.int .i64 a0_0, .int .i64 a0_1, .int .i64 a0_2] 23 (0, 0))) := ⟨h0_⟩
        replace BK242 : Aside0 (w15.heap[gb242]? = some (.cells #[.string (⟨#[]⟩ : ByteArray), .string (⟨#[]⟩ : ByteArray), .int .i64 0] 29 (0, 0))) := ⟨h1_⟩
        have BK249 : Aside0 (w15.heap[gb249]? = some (.cells #[.string (⟨#[]⟩ : ByteArray), .string (⟨#[]⟩ : ByteArray), .int .i64 0] 29 (0, 0))) := ⟨h2_⟩
        have GW249 : Aside0 (w.heap.size ≤ gb249) := ⟨h3_⟩
        have GE249 : Aside0 (w.heap.size ≤ gb249) := ⟨h4_⟩
        have NB241_249 : Aside0 (gb241 ≠ gb249) := ⟨h5_⟩
        have NB249_241 : Aside0 (gb249 ≠ gb241) := ⟨h6_⟩
        have NB242_249 : Aside0 (gb242 ≠ gb249) := ⟨h7_⟩
        have NB249_242 : Aside0 (gb249 ≠ gb242) := ⟨h8_⟩
        replace HB : Aside0 (Below w.heap.size w w15) := ⟨h9_⟩
        clear h0_ h1_ h2_ h3_ h4_ h5_ h6_ h7_ h8_ h9_
        have hHeld : w15.cell? ⟨gb241, 0, none⟩ = some (.int .i64 a0_0) ∧ w15.cell? ⟨gb241, 1, none⟩ = some (.int .i64 a0_1) ∧ w15.cell? ⟨gb241, 2, none⟩ = some (.int .i64 a0_2) := hS_
        refine norm_ (a' := ?_) ?_ ?_
        rotate_left
        ·simp only [putAll, Act.put, List.setIfInBounds_toArray, List.set_cons_zero, List.set_cons_succ]
         rfl
        refine one_ (i := 12) (N := some 16) (bm 21 557055) rfl rfl (one_of HT_.out (by kernel_rfl)) (by decide) (fun K hK => ?_)
        refine goes_ Tryz.func33 (by kernel_rfl) rfl #[.int .i64 (wrap64 (Int.tdiv a0_1 3)), .int .i64 1000] (by rfl) rfl rfl (zq7) ?_
        with_reducible refine (dialtoneref12_pick.calls (wrap64 (Int.tdiv a0_1 3)) 1000 t246 _ A5.out).mono ?_
        rintro e w' ⟨rfl, ⟨nd, rfl⟩⟩
        refine ⟨_, rfl, ?_⟩
        refine hK.out _ _ ⟨(blk_cell BK241.out 0).trans rfl, (blk_cell BK241.out 1).trans rfl, (blk_cell BK241.out 2).trans rfl⟩ (fun hHeld => ?_)
        clear hK K
        refine nz (some 16) ?_
        exact norm_ (zq87) (hJ3_6_8_12_19 (gb249) _ ⟨hHeld, (zq85), (zq88), (zq93), GW249.out, GE249.out, NB241_249.out, NB249_241.out, NB242_249.out, NB249_242.out, (zq94)⟩)
      ·skip
       rintro _ w14 ⟨hS_, h0_, h1_, h2_⟩
       replace BK241 : Aside0 (w14.heap[gb241]? = some (.cells #[.int .i64 a0_0, .int .i64 a0_1, .int .i64 a0_2] 23 (0, 0))) := ⟨h0_⟩
       replace BK242 : Aside0 (w14.heap[gb242]? = some (.cells #[.string (⟨#[]⟩ : ByteArray), .string (⟨#[]⟩ : ByteArray), .int .i64 0] 29 (0, 0))) := ⟨h1_⟩
       replace HB : Aside0 (Below w.heap.size w w14) := ⟨h2_⟩
       clear h0_ h1_ h2_
       have hHeld : w14.cell? ⟨gb241, 0, none⟩ = some (.int .i64 a0_0) ∧ w14.cell? ⟨gb241, 1, none⟩ = some (.int .i64 a0_1) ∧ w14.cell? ⟨gb241, 2, none⟩ = some (.int .i64 a0_2) := hS_
       refine norm_ (a' := ?_) ?_ ?_
       rotate_left
       ·simp only [putAll, Act.put, List.setIfInBounds_toArray, List.set_cons_zero, List.set_cons_succ]
        rfl
       refine two_ (i := 15) (j := 19) (Ni := some 19) (Nj := some 3) (bm 21 65535) (bm 21 557055) rfl rfl rfl rfl (two_of HT_.out (by kernel_rfl)) (by decide) (by decide) (fun K hK => ?_) (fun K hK => ?_)
       ·skip
        refine goes_ Tryz.func33 (by kernel_rfl) rfl #[.int .i64 a0_1, .int .i64 3] (by rfl) rfl rfl (zq7) ?_
        with_reducible refine (dialtoneref12_pick.calls a0_1 3 t247 _ A6.out).mono ?_
        rintro e w' ⟨rfl, ⟨nd, rfl⟩⟩
        refine ⟨_, rfl, ?_⟩
        refine hK.out _ _ ⟨(blk_cell BK241.out 0).trans rfl, (blk_cell BK241.out 1).trans rfl, (blk_cell BK241.out 2).trans rfl⟩ (fun hHeld => ?_)
        clear hK K
        refine nz (some 19) ?_
        refine pz 16 (some 20) (bm 21 131071) HT_ ?_
        exact norm_ (zq87) (hJ3_6_8_12_15 () _ ⟨hHeld, (zq85), (zq88), (zq89)⟩)
       ·skip
        refine box_step ?hg (N := 3) ?hd (cs := #[.string (⟨#[]⟩ : ByteArray), .string (⟨#[]⟩ : ByteArray), .int .i64 0]) (t := 29) ?hr ?_; (case hd => rfl); (case hg => rfl); (case hr => exact zq3)
        intro gb249 hg w15 hbox hb
        have BK249 := Aside0.mk (hbox)
        have GW249 := Aside0.mk ((zq90 : w.heap.size ≤ gb249))
        have GE249 := Aside0.mk ((zq90 : w.heap.size ≤ gb249))
        replace HB := Aside0.mk (below_step (zq89) hb)
        have NB241_249 := Aside0.mk ((zq84 : gb241 ≠ gb249))
        have NB249_241 := Aside0.mk ((zq86 : gb249 ≠ gb241))
        replace BK241 := Aside0.mk (blk_below (g := gb241) (o := .cells #[.int .i64 a0_0, .int .i64 a0_1, .int .i64 a0_2] 23 (0, 0)) (zq85) hb)
        have NB242_249 := Aside0.mk ((zq91 : gb242 ≠ gb249))
        have NB249_242 := Aside0.mk ((zq92 : gb249 ≠ gb242))
        replace BK242 := Aside0.mk (blk_below (g := gb242) (o := .cells #[.string (⟨#[]⟩ : ByteArray), .string (⟨#[]⟩ : ByteArray), .int .i64 0] 29 (0, 0)) (zq88) hb)
        clear hb hbox hg
        refine hK.out _ _ ⟨(blk_cell BK241.out 0).trans rfl, (blk_cell BK241.out 1).trans rfl, (blk_cell BK241.out 2).trans rfl⟩ (fun hHeld => ?_)
        clear hK K
        refine nz (some 3) ?_
        exact norm_ (zq87) (hJ3_6_8_12_19 (gb249) _ ⟨hHeld, (zq85), (zq88), (zq93), GW249.out, GE249.out, NB241_249.out, NB249_241.out, NB242_249.out, NB249_242.out, (zq94)⟩)
     ·skip
      rintro gb249 w15 ⟨hS_, h0_, h1_, h2_, h3_, h4_, h5_, h6_, h7_, h8_, h9_⟩
      replace BK241 : Aside0 (w15.heap[gb241]? = some (.cells #[.int .i64 a0_0, .int .i64 a0_1, .int .i64 a0_2] 23 (0, 0))) := ⟨h0_⟩
      replace BK242 : Aside0 (w15.heap[gb242]? = some (.cells #[.string (⟨#[]⟩ : ByteArray), .string (⟨#[]⟩ : ByteArray), .int .i64 0] 29 (0, 0))) := ⟨h1_⟩
      have BK249 : Aside0 (w15.heap[gb249]? = some (.cells #[.string (⟨#[]⟩ : ByteArray), .string (⟨#[]⟩ : ByteArray), .int .i64 0] 29 (0, 0))) := ⟨h2_⟩
      have GW249 : Aside0 (w.heap.size ≤ gb249) := ⟨h3_⟩
      have GE249 : Aside0 (w.heap.size ≤ gb249) := ⟨h4_⟩
      have NB241_249 : Aside0 (gb241 ≠ gb249) := ⟨h5_⟩
      have NB249_241 : Aside0 (gb249 ≠ gb241) := ⟨h6_⟩
      have NB242_249 : Aside0 (gb242 ≠ gb249) := ⟨h7_⟩
      have NB249_242 : Aside0 (gb249 ≠ gb242) := ⟨h8_⟩
      replace HB : Aside0 (Below w.heap.size w w15) := ⟨h9_⟩
      clear h0_ h1_ h2_ h3_ h4_ h5_ h6_ h7_ h8_ h9_
      have hHeld : w15.cell? ⟨gb241, 0, none⟩ = some (.int .i64 a0_0) ∧ w15.cell? ⟨gb241, 1, none⟩ = some (.int .i64 a0_1) ∧ w15.cell? ⟨gb241, 2, none⟩ = some (.int .i64 a0_2) := hS_
      refine norm_ (a' := ?_) ?_ ?_
      rotate_left
      ·simp only [putAll, Act.put, List.setIfInBounds_toArray, List.set_cons_zero, List.set_cons_succ]
       rfl
      refine one_ (i := 15) (N := some 19) (bm 21 589823) rfl rfl (one_of HT_.out (by kernel_rfl)) (by decide) (fun K hK => ?_)
      refine goes_ Tryz.func33 (by kernel_rfl) rfl #[.int .i64 a0_1, .int .i64 3] (by rfl) rfl rfl (zq7) ?_
      with_reducible refine (dialtoneref12_pick.calls a0_1 3 t247 _ A6.out).mono ?_
      rintro e w' ⟨rfl, ⟨nd, rfl⟩⟩
      refine ⟨_, rfl, ?_⟩
      refine hK.out _ _ ⟨(blk_cell BK241.out 0).trans rfl, (blk_cell BK241.out 1).trans rfl, (blk_cell BK241.out 2).trans rfl⟩ (fun hHeld => ?_)
      clear hK K
      refine nz (some 19) ?_
      refine pz 16 (some 20) (bm 21 655359) HT_ ?_
      exact norm_ (zq87) (hJ3_6_8_12_15_19 (gb249) _ ⟨hHeld, (zq85), (zq88), (zq93), GW249.out, GE249.out, NB241_249.out, NB249_241.out, NB242_249.out, NB249_242.out, (zq94)⟩)
    ·skip
     rintro _ w14 ⟨hS_, h0_, h1_, h2_⟩
     replace BK241 : Aside0 (w14.heap[gb241]? = some (.cells #[.int .i64 a0_0, .int .i64 a0_1, .int .i64 a0_2] 23 (0, 0))) := ⟨h0_⟩
     replace BK242 : Aside0 (w14.heap[gb242]? = some (.cells #[.string (⟨#[]⟩ : ByteArray), .string (⟨#[]⟩ : ByteArray), .int .i64 0] 29 (0, 0))) := ⟨h1_⟩
     replace HB : Aside0 (Below w.heap.size w w14) := ⟨h2_⟩
     clear h0_ h1_ h2_
     have hHeld : w14.cell? ⟨gb241, 0, none⟩ = some (.int .i64 a0_0) ∧ w14.cell? ⟨gb241, 1, none⟩ = some (.int .i64 a0_1) ∧ w14.cell? ⟨gb241, 2, none⟩ = some (.int .i64 a0_2) := hS_
     refine norm_ (a' := ?_) ?_ ?_
     rotate_left
     ·simp only [putAll, Act.put, List.setIfInBounds_toArray, List.set_cons_zero, List.set_cons_succ]
      rfl
     refine two_ (i := 17) (j := 19) (Ni := some 21) (Nj := some 3) (bm 21 262143) (bm 21 655359) rfl rfl rfl rfl (two_of HT_.out (by kernel_rfl)) (by decide) (by decide) (fun K hK => ?_) (fun K hK => ?_)
     ·skip
      refine goes_ Tryz.func34 (by kernel_rfl) rfl #[.int .i64 t246, .int .i64 (wrap64 (1 + t247))] (by rfl) rfl rfl (zq7) ?_
      with_reducible refine (dialtoneref12_prefix.calls k t246 (wrap64 (1 + t247)) t248 _ A7.out).mono ?_
      rintro e w15 ⟨rfl, hb⟩
      refine ⟨_, rfl, ?_⟩
      replace BK241 := Aside0.mk (blk_below (g := gb241) (o := .cells #[.int .i64 a0_0, .int .i64 a0_1, .int .i64 a0_2] 23 (0, 0)) (zq85) hb)
      replace BK242 := Aside0.mk (blk_below (g := gb242) (o := .cells #[.string (⟨#[]⟩ : ByteArray), .string (⟨#[]⟩ : ByteArray), .int .i64 0] 29 (0, 0)) (zq88) hb)
      replace HB := Aside0.mk (below_step (zq89) hb)
      (try clear hb)
      (try clear hb2)
      (try clear hk)
      (try clear hi)
      refine hK.out _ _ ⟨(blk_cell BK241.out 0).trans rfl, (blk_cell BK241.out 1).trans rfl, (blk_cell BK241.out 2).trans rfl⟩ (fun hHeld => ?_)
      clear hK K
      refine nz (some 21) ?_
      refine pz 18 (some 22) (bm 21 524287) HT_ ?_
      exact norm_ (zq87) (hJ3_6_8_12_15_17 () _ ⟨hHeld, (zq85), (zq88), (zq89)⟩)
     ·skip
      refine box_step ?hg (N := 3) ?hd (cs := #[.string (⟨#[]⟩ : ByteArray), .string (⟨#[]⟩ : ByteArray), .int .i64 0]) (t := 29) ?hr ?_; (case hd => rfl); (case hg => rfl); (case hr => exact zq3)
      intro gb249 hg w15 hbox hb
      have BK249 := Aside0.mk (hbox)
      have GW249 := Aside0.mk ((zq90 : w.heap.size ≤ gb249))
      have GE249 := Aside0.mk ((zq90 : w.heap.size ≤ gb249))
      replace HB := Aside0.mk (below_step (zq89) hb)
      have NB241_249 := Aside0.mk ((zq84 : gb241 ≠ gb249))
      have NB249_241 := Aside0.mk ((zq86 : gb249 ≠ gb241))
      replace BK241 := Aside0.mk (blk_below (g := gb241) (o := .cells #[.int .i64 a0_0, .int .i64 a0_1, .int .i64 a0_2] 23 (0, 0)) (zq85) hb)
      have NB242_249 := Aside0.mk ((zq91 : gb242 ≠ gb249))
      have NB249_242 := Aside0.mk ((zq92 : gb249 ≠ gb242))
      replace BK242 := Aside0.mk (blk_below (g := gb242) (o := .cells #[.string (⟨#[]⟩ : ByteArray), .string (⟨#[]⟩ : ByteArray), .int .i64 0] 29 (0, 0)) (zq88) hb)
      clear hb hbox hg
      refine hK.out _ _ ⟨(blk_cell BK241.out 0).trans rfl, (blk_cell BK241.out 1).trans rfl, (blk_cell BK241.out 2).trans rfl⟩ (fun hHeld => ?_)
      clear hK K
      refine nz (some 3) ?_
      exact norm_ (zq87) (hJ3_6_8_12_15_19 (gb249) _ ⟨hHeld, (zq85), (zq88), (zq93), GW249.out, GE249.out, NB241_249.out, NB249_241.out, NB242_249.out, NB249_242.out, (zq94)⟩)
   ·skip
    rintro gb249 w15 ⟨hS_, h0_, h1_, h2_, h3_, h4_, h5_, h6_, h7_, h8_, h9_⟩
    replace BK241 : Aside0 (w15.heap[gb241]? = some (.cells #[.int .i64 a0_0, .int .i64 a0_1, .int .i64 a0_2] 23 (0, 0))) := ⟨h0_⟩
    replace BK242 : Aside0 (w15.heap[gb242]? = some (.cells #[.string (⟨#[]⟩ : ByteArray), .string (⟨#[]⟩ : ByteArray), .int .i64 0] 29 (0, 0))) := ⟨h1_⟩
    have BK249 : Aside0 (w15.heap[gb249]? = some (.cells #[.string (⟨#[]⟩ : ByteArray), .string (⟨#[]⟩ : ByteArray), .int .i64 0] 29 (0, 0))) := ⟨h2_⟩
    have GW249 : Aside0 (w.heap.size ≤ gb249) := ⟨h3_⟩
    have GE249 : Aside0 (w.heap.size ≤ gb249) := ⟨h4_⟩
    have NB241_249 : Aside0 (gb241 ≠ gb249) := ⟨h5_⟩
    have NB249_241 : Aside0 (gb249 ≠ gb241) := ⟨h6_⟩
    have NB242_249 : Aside0 (gb242 ≠ gb249) := ⟨h7_⟩
    have NB249_242 : Aside0 (gb249 ≠ gb242) := ⟨h8_⟩
    replace HB : Aside0 (Below w.heap.size w w15) := ⟨h9_⟩
    clear h0_ h1_ h2_ h3_ h4_ h5_ h6_ h7_ h8_ h9_
    have hHeld : w15.cell? ⟨gb241, 0, none⟩ = some (.int .i64 a0_0) ∧ w15.cell? ⟨gb241, 1, none⟩ = some (.int .i64 a0_1) ∧ w15.cell? ⟨gb241, 2, none⟩ = some (.int .i64 a0_2) := hS_
    refine norm_ (a' := ?_) ?_ ?_
    rotate_left
    ·simp only [putAll, Act.put, List.setIfInBounds_toArray, List.set_cons_zero, List.set_cons_succ]
     rfl
    refine one_ (i := 17) (N := some 21) (bm 21 786431) rfl rfl (one_of HT_.out (by kernel_rfl)) (by decide) (fun K hK => ?_)
    refine goes_ Tryz.func34 (by kernel_rfl) rfl #[.int .i64 t246, .int .i64 (wrap64 (1 + t247))] (by rfl) rfl rfl (zq7) ?_
    with_reducible refine (dialtoneref12_prefix.calls k t246 (wrap64 (1 + t247)) t248 _ A7.out).mono ?_
    rintro e w16 ⟨rfl, hb⟩
    refine ⟨_, rfl, ?_⟩
    replace BK241 := Aside0.mk (blk_below (g := gb241) (o := .cells #[.int .i64 a0_0, .int .i64 a0_1, .int .i64 a0_2] 23 (0, 0)) (zq85) hb)
    replace BK242 := Aside0.mk (blk_below (g := gb242) (o := .cells #[.string (⟨#[]⟩ : ByteArray), .string (⟨#[]⟩ : ByteArray), .int .i64 0] 29 (0, 0)) (zq88) hb)
    replace BK249 := Aside0.mk (blk_below (g := gb249) (o := .cells #[.string (⟨#[]⟩ : ByteArray), .string (⟨#[]⟩ : ByteArray), .int .i64 0] 29 (0, 0)) (zq93) hb)
    replace HB := Aside0.mk (below_step (zq94) hb)
    (try clear hb)
    (try clear hb2)
    (try clear hk)
    (try clear hi)
    refine hK.out _ _ ⟨(blk_cell BK241.out 0).trans rfl, (blk_cell BK241.out 1).trans rfl, (blk_cell BK241.out 2).trans rfl⟩ (fun hHeld => ?_)
    clear hK K
    refine nz (some 21) ?_
    refine pz 18 (some 22) (bm 21 1048575) HT_ ?_
    exact norm_ (zq87) (hJ3_6_8_12_15_17_19 (gb249) _ ⟨hHeld, (zq85), (zq88), (zq93), GW249.out, GE249.out, NB241_249.out, NB249_241.out, NB242_249.out, NB249_242.out, (zq94)⟩)
  ·skip
   rintro _ w15 ⟨hS_, h0_, h1_, h2_⟩
   replace BK241 : Aside0 (w15.heap[gb241]? = some (.cells #[.int .i64 a0_0, .int .i64 a0_1, .int .i64 a0_2] 23 (0, 0))) := ⟨h0_⟩
   replace BK242 : Aside0 (w15.heap[gb242]? = some (.cells #[.string (⟨#[]⟩ : ByteArray), .string (⟨#[]⟩ : ByteArray), .int .i64 0] 29 (0, 0))) := ⟨h1_⟩
   replace HB : Aside0 (Below w.heap.size w w15) := ⟨h2_⟩
   clear h0_ h1_ h2_
   have hHeld : w15.cell? ⟨gb241, 0, none⟩ = some (.int .i64 a0_0) ∧ w15.cell? ⟨gb241, 1, none⟩ = some (.int .i64 a0_1) ∧ w15.cell? ⟨gb241, 2, none⟩ = some (.int .i64 a0_2) := hS_
   refine norm_ (a' := ?_) ?_ ?_
   rotate_left
   ·simp only [putAll, Act.put, List.setIfInBounds_toArray, List.set_cons_zero, List.set_cons_succ]
    rfl
   refine one_ (i := 19) (N := some 3) (bm 21 1048575) rfl rfl (one_of HT_.out (by kernel_rfl)) (by decide) (fun K hK => ?_)
   refine box_step ?hg (N := 3) ?hd (cs := #[.string (⟨#[]⟩ : ByteArray), .string (⟨#[]⟩ : ByteArray), .int .i64 0]) (t := 29) ?hr ?_; (case hd => rfl); (case hg => rfl); (case hr => exact zq3)
   intro gb249 hg w16 hbox hb
   have BK249 := Aside0.mk (hbox)
   have GW249 := Aside0.mk ((zq90 : w.heap.size ≤ gb249))
   have GE249 := Aside0.mk ((zq90 : w.heap.size ≤ gb249))
   replace HB := Aside0.mk (below_step (zq89) hb)
   have NB241_249 := Aside0.mk ((zq84 : gb241 ≠ gb249))
   have NB249_241 := Aside0.mk ((zq86 : gb249 ≠ gb241))
   replace BK241 := Aside0.mk (blk_below (g := gb241) (o := .cells #[.int .i64 a0_0, .int .i64 a0_1, .int .i64 a0_2] 23 (0, 0)) (zq85) hb)
   have NB242_249 := Aside0.mk ((zq91 : gb242 ≠ gb249))
   have NB249_242 := Aside0.mk ((zq92 : gb249 ≠ gb242))
   replace BK242 := Aside0.mk (blk_below (g := gb242) (o := .cells #[.string (⟨#[]⟩ : ByteArray), .string (⟨#[]⟩ : ByteArray), .int .i64 0] 29 (0, 0)) (zq88) hb)
   clear hb hbox hg
   refine hK.out _ _ ⟨(blk_cell BK241.out 0).trans rfl, (blk_cell BK241.out 1).trans rfl, (blk_cell BK241.out 2).trans rfl⟩ (fun hHeld => ?_)
   clear hK K
   refine nz (some 3) ?_
   exact norm_ (zq87) (hJ3_6_8_12_15_17_19 (gb249) _ ⟨hHeld, (zq85), (zq88), (zq93), GW249.out, GE249.out, NB241_249.out, NB249_241.out, NB242_249.out, NB249_242.out, (zq94)⟩)
 rintro gb249 w16 ⟨hS_, h0_, h1_, h2_, h3_, h4_, h5_, h6_, h7_, h8_, h9_⟩
 replace BK241 : Aside0 (w16.heap[gb241]? = some (.cells #[.int .i64 a0_0, .int .i64 a0_1, .int .i64 a0_2] 23 (0, 0))) := ⟨h0_⟩
 replace BK242 : Aside0 (w16.heap[gb242]? = some (.cells #[.string (⟨#[]⟩ : ByteArray), .string (⟨#[]⟩ : ByteArray), .int .i64 0] 29 (0, 0))) := ⟨h1_⟩
 have BK249 : Aside0 (w16.heap[gb249]? = some (.cells #[.string (⟨#[]⟩ : ByteArray), .string (⟨#[]⟩ : ByteArray), .int .i64 0] 29 (0, 0))) := ⟨h2_⟩
 have GW249 : Aside0 (w.heap.size ≤ gb249) := ⟨h3_⟩
 have GE249 : Aside0 (w.heap.size ≤ gb249) := ⟨h4_⟩
 have NB241_249 : Aside0 (gb241 ≠ gb249) := ⟨h5_⟩
 have NB249_241 : Aside0 (gb249 ≠ gb241) := ⟨h6_⟩
 have NB242_249 : Aside0 (gb242 ≠ gb249) := ⟨h7_⟩
 have NB249_242 : Aside0 (gb249 ≠ gb242) := ⟨h8_⟩
 replace HB : Aside0 (Below w.heap.size w w16) := ⟨h9_⟩
 clear h0_ h1_ h2_ h3_ h4_ h5_ h6_ h7_ h8_ h9_
 have hHeld : w16.cell? ⟨gb241, 0, none⟩ = some (.int .i64 a0_0) ∧ w16.cell? ⟨gb241, 1, none⟩ = some (.int .i64 a0_1) ∧ w16.cell? ⟨gb241, 2, none⟩ = some (.int .i64 a0_2) := hS_
 refine norm_ (a' := ?_) ?_ ?_
 rotate_left
 ·simp only [putAll, Act.put, List.setIfInBounds_toArray, List.set_cons_zero, List.set_cons_succ]
  rfl
 refine one_ (i := 20) (N := none) (bm 21 2097151) rfl rfl (one_of HT_.out (by kernel_rfl)) (by decide) (fun K hK => ?_)
 have hs17 : w16.cell? ⟨gb249, 0, none⟩ = some (.string (⟨#[]⟩ : ByteArray)) := (blk_cell BK249.out 0).trans rfl
 have hfs17 := blk_frozen BK249.out 0
 have hns17_0 := NB241_249.out
 have hns17_1 := NB242_249.out
 have hms17_0 := NB249_241.out
 have hms17_1 := NB249_242.out
 have hs18 : w16.cell? ⟨gb249, 1, none⟩ = some (.string (⟨#[]⟩ : ByteArray)) := (blk_cell BK249.out 1).trans rfl
 have hfs18 := blk_frozen BK249.out 1
 have hns18_0 := NB241_249.out
 have hns18_1 := NB242_249.out
 have hms18_0 := NB249_241.out
 have hms18_1 := NB249_242.out
 have hs19 : w16.cell? ⟨gb249, 2, none⟩ = some (.int .i64 0) := (blk_cell BK249.out 2).trans rfl
 have hfs19 := blk_frozen BK249.out 2
 have hns19_0 := NB241_249.out
 have hns19_1 := NB242_249.out
 have hms19_0 := NB249_241.out
 have hms19_1 := NB249_242.out
 refine skip_ (w1 := ?_) (by rfl) rfl ?_ ?_
 rotate_left
 ·go_simp
  rfl
 refine hK.out _ _ ⟨((cell_far (p := ⟨gb249, _, none⟩) NB241_249.out _).trans (((cell_far (p := ⟨gb249, _, none⟩) NB241_249.out _).trans (((cell_far (p := ⟨gb249, _, none⟩) NB241_249.out _).trans (hHeld.1)))))), ((cell_far (p := ⟨gb249, _, none⟩) NB241_249.out _).trans (((cell_far (p := ⟨gb249, _, none⟩) NB241_249.out _).trans (((cell_far (p := ⟨gb249, _, none⟩) NB241_249.out _).trans (hHeld.2.1)))))), ((cell_far (p := ⟨gb249, _, none⟩) NB241_249.out _).trans (((cell_far (p := ⟨gb249, _, none⟩) NB241_249.out _).trans (((cell_far (p := ⟨gb249, _, none⟩) NB241_249.out _).trans (hHeld.2.2))))))⟩ (fun hHeld => ?_)
 clear hK K
 refine done_ (done_of HT_.out (by kernel_rfl)) ?_
 try go_wp2
 have n0_ : Aside0 ((((w16.setCell ⟨gb249, 0, none⟩ (.string t245)).setCell ⟨gb249, 1, none⟩ (.string t248)).setCell ⟨gb249, 2, none⟩ (.int .i64 0)).heap[gb241]? = some (.cells #[.int .i64 a0_0, .int .i64 a0_1, .int .i64 a0_2] 23 (0, 0))) := ⟨by (with_reducible repeat (first | refine blk_drewN ?_ _ | refine blk_drew ?_ | refine blk_alloc ?_ _)); refine blk_far ?_ NB241_249.out _; (with_reducible repeat (first | refine blk_drewN ?_ _ | refine blk_drew ?_ | refine blk_alloc ?_ _)); refine blk_far ?_ NB241_249.out _; (with_reducible repeat (first | refine blk_drewN ?_ _ | refine blk_drew ?_ | refine blk_alloc ?_ _)); refine blk_far ?_ NB241_249.out _; (with_reducible repeat (first | refine blk_drewN ?_ _ | refine blk_drew ?_ | refine blk_alloc ?_ _)); exact BK241.out⟩
 have n1_ : Aside0 ((((w16.setCell ⟨gb249, 0, none⟩ (.string t245)).setCell ⟨gb249, 1, none⟩ (.string t248)).setCell ⟨gb249, 2, none⟩ (.int .i64 0)).heap[gb242]? = some (.cells #[.string (⟨#[]⟩ : ByteArray), .string (⟨#[]⟩ : ByteArray), .int .i64 0] 29 (0, 0))) := ⟨by (with_reducible repeat (first | refine blk_drewN ?_ _ | refine blk_drew ?_ | refine blk_alloc ?_ _)); refine blk_far ?_ NB242_249.out _; (with_reducible repeat (first | refine blk_drewN ?_ _ | refine blk_drew ?_ | refine blk_alloc ?_ _)); refine blk_far ?_ NB242_249.out _; (with_reducible repeat (first | refine blk_drewN ?_ _ | refine blk_drew ?_ | refine blk_alloc ?_ _)); refine blk_far ?_ NB242_249.out _; (with_reducible repeat (first | refine blk_drewN ?_ _ | refine blk_drew ?_ | refine blk_alloc ?_ _)); exact BK242.out⟩
 have n2_ : Aside0 ((((w16.setCell ⟨gb249, 0, none⟩ (.string t245)).setCell ⟨gb249, 1, none⟩ (.string t248)).setCell ⟨gb249, 2, none⟩ (.int .i64 0)).heap[gb249]? = some (.cells #[.string t245, .string t248, .int .i64 0] 29 (0, 0))) := ⟨by (with_reducible repeat (first | refine blk_drewN ?_ _ | refine blk_drew ?_ | refine blk_alloc ?_ _)); refine blk_put (cs := #[.string t245, .string t248, .int .i64 0]) ?_ 2 _ rfl; (with_reducible repeat (first | refine blk_drewN ?_ _ | refine blk_drew ?_ | refine blk_alloc ?_ _)); refine blk_put (cs := #[.string t245, .string (⟨#[]⟩ : ByteArray), .int .i64 0]) ?_ 1 _ rfl; (with_reducible repeat (first | refine blk_drewN ?_ _ | refine blk_drew ?_ | refine blk_alloc ?_ _)); refine blk_put (cs := #[.string (⟨#[]⟩ : ByteArray), .string (⟨#[]⟩ : ByteArray), .int .i64 0]) ?_ 0 _ rfl; (with_reducible repeat (first | refine blk_drewN ?_ _ | refine blk_drew ?_ | refine blk_alloc ?_ _)); exact BK249.out⟩
 have n3_ : Aside0 (Below w.heap.size w (((w16.setCell ⟨gb249, 0, none⟩ (.string t245)).setCell ⟨gb249, 1, none⟩ (.string t248)).setCell ⟨gb249, 2, none⟩ (.int .i64 0))) := ⟨zq94⟩
 (try clear BK241)
 (try clear BK242)
 (try clear BK249)
 (try clear HB)
 generalize (((w16.setCell ⟨gb249, 0, none⟩ (.string t245)).setCell ⟨gb249, 1, none⟩ (.string t248)).setCell ⟨gb249, 2, none⟩ (.int .i64 0)) = w20 at n0_ n1_ n2_ n3_ ⊢
 have BK241 := n0_
 have BK242 := n1_
 have BK249 := n2_
 have HB := n3_
 clear n0_ n1_ n2_ n3_
 replace BK241 := Aside0.mk (blk_drew BK241.out)
 replace BK242 := Aside0.mk (blk_drew BK242.out)
 replace BK249 := Aside0.mk (blk_drew BK249.out)
 replace HB := Aside0.mk (below_drew1 HB.out)
 refine start_ (n := 19) (S := fun w' => w'.cell? ⟨gb249, 0, none⟩ = some (.string t245) ∧ w'.cell? ⟨gb249, 1, none⟩ = some (.string t248) ∧ w'.cell? ⟨gb249, 2, none⟩ = some (.int .i64 0) ∧ w'.cell? ⟨gb241, 0, none⟩ = some (.int .i64 a0_0) ∧ w'.cell? ⟨gb241, 1, none⟩ = some (.int .i64 a0_1) ∧ w'.cell? ⟨gb241, 2, none⟩ = some (.int .i64 a0_2)) (ds := [18]) (bm 19 0) (by kernel_rfl) rfl rfl ⟨(blk_cell BK249.out 0).trans rfl, (blk_cell BK249.out 1).trans rfl, (blk_cell BK249.out 2).trans rfl, (blk_cell BK241.out 0).trans rfl, (blk_cell BK241.out 1).trans rfl, (blk_cell BK241.out 2).trans rfl⟩ (fun hHeld => ?_); refine with_tabW dialtoneref12_One.tab2 dialtoneref12_One.bits2 (fun HT_ HW_ => ?_)
 generalize w20.drew = w21 at BK241 BK242 BK249 HB hHeld ⊢
 refine pz 0 (some 23) (bm 19 1) HT_ ?_
 refine pz 4 (some 27) (bm 19 17) HT_ ?_
 refine pz 6 (some 29) (bm 19 81) HT_ ?_
 refine pz 10 (some 33) (bm 19 1105) HT_ ?_
 refine tz 1 (some 24) (bm 19 1107) HT_ HW_ hHeld ?_
 refine pz 2 (some 25) (bm 19 1111) HT_ ?_
 refine pz 3 (some 26) (bm 19 1119) HT_ ?_
 refine tz 5 (some 28) (bm 19 1151) HT_ HW_ hHeld ?_
 refine tz 7 (some 30) (bm 19 1279) HT_ HW_ hHeld ?_
 refine pz 8 (some 31) (bm 19 1535) HT_ ?_
 refine pz 9 (some 32) (bm 19 2047) HT_ ?_
 refine tz 11 (some 34) (bm 19 4095) HT_ HW_ hHeld ?_
 refine pz 12 (some 35) (bm 19 8191) HT_ ?_
 refine pz 13 (some 36) (bm 19 16383) HT_ ?_
 refine pz 14 (some 37) (bm 19 32767) HT_ ?_
 refine one_ (i := 15) (N := some 38) (bm 19 65535) rfl rfl (one_of HT_.out (by kernel_rfl)) (by decide) (fun K hK => ?_)
 refine goes_ Tryz.func33 (by kernel_rfl) rfl #[.int .i64 a0_2, .int .i64 ji8] (by rfl) rfl rfl (by (try simp only [List.map_toArray, List.map_cons, List.map_nil]); first | done | (simp only [hji8]; rfl) | rfl | (simp only [List.length_drop, List.length_take]; rfl) | (simp (disch := omega) only [wrap64_of]; done) | (simp (disch := omega) only [wrap64_of]; rfl)) ?_
 with_reducible refine (dialtoneref12_pick.calls a0_2 ji8 t250 _ A9.out).mono ?_
 rintro e w' ⟨rfl, ⟨nd, rfl⟩⟩
 refine ⟨_, rfl, ?_⟩
 refine hK.out _ _ ⟨(blk_cell BK249.out 0).trans rfl, (blk_cell BK249.out 1).trans rfl, (blk_cell BK249.out 2).trans rfl, (blk_cell BK241.out 0).trans rfl, (blk_cell BK241.out 1).trans rfl, (blk_cell BK241.out 2).trans rfl⟩ (fun hHeld => ?_)
 clear hK K
 refine nz (some 38) ?_
 refine pz 16 (some 39) (bm 19 131071) HT_ ?_
 refine pz 17 (some 40) (bm 19 262143) HT_ ?_
 refine last_ (i := 18) (N := none) (bm 19 524287) rfl rfl (one_of HT_.out (by kernel_rfl)) (by decide) (fun K hK => ?_)
 have hs22 : w21.cell? ⟨gb249, 2, none⟩ = some (.int .i64 0) := (blk_cell BK249.out 2).trans rfl
 have hfs22 := blk_frozen BK249.out 2
 have hns22_0 := NB241_249.out
 have hns22_1 := NB242_249.out
 have hms22_0 := NB249_241.out
 have hms22_1 := NB249_242.out
 refine skip_ (w1 := ?_) (by rfl) rfl ?_ ?_
 rotate_left
 ·go_simp
  rfl
 refine hK.out _ _ ?_
 clear hK K
 refine done_ (done_of HT_.out (by kernel_rfl)) ?_
 have hnb23 := NB249_241.out
 have hnc23 := NB241_249.out
 have hnb24 := NB249_242.out
 have hnc24 := NB242_249.out
 have hcz25_0 : w21.cell? ⟨gb249, 0, none⟩ = some (.string t245) := (blk_cell BK249.out 0).trans rfl
 have hcz25_1 : w21.cell? ⟨gb249, 1, none⟩ = some (.string t248) := (blk_cell BK249.out 1).trans rfl
 have hcz25_2 : w21.cell? ⟨gb249, 2, none⟩ = some (.int .i64 0) := (blk_cell BK249.out 2).trans rfl
 have hfz25_0 := blk_frozen BK249.out 0
 have hfz25_1 := blk_frozen BK249.out 1
 have hfz25_2 := blk_frozen BK249.out 2
 have hnb26 := NB242_241.out
 have hnc26 := NB241_242.out
 have hcz27_0 : w21.cell? ⟨gb242, 0, none⟩ = some (.string (⟨#[]⟩ : ByteArray)) := (blk_cell BK242.out 0).trans rfl
 have hcz27_1 : w21.cell? ⟨gb242, 1, none⟩ = some (.string (⟨#[]⟩ : ByteArray)) := (blk_cell BK242.out 1).trans rfl
 have hcz27_2 : w21.cell? ⟨gb242, 2, none⟩ = some (.int .i64 0) := (blk_cell BK242.out 2).trans rfl
 have hfz27_0 := blk_frozen BK242.out 0
 have hfz27_1 := blk_frozen BK242.out 1
 have hfz27_2 := blk_frozen BK242.out 2
 try go_wp2
 refine bodyPost_ret (results_cell_row rfl _ _ gb242 29 #[.string t245, .string t248, .int .i64 (wrap64 ((wrap64 ((t245.size : Int) + 1)) + t250))] (0, 0) _ rfl (by (with_reducible repeat (first | refine blk_drewN ?_ _ | refine blk_drew ?_ | refine blk_alloc ?_ _)); refine blk_put (cs := #[.string t245, .string t248, .int .i64 0]) ?_ 2 _ rfl; (with_reducible repeat (first | refine blk_drewN ?_ _ | refine blk_drew ?_ | refine blk_alloc ?_ _)); refine blk_put (cs := #[.string t245, .string (⟨#[]⟩ : ByteArray), .int .i64 0]) ?_ 1 _ rfl; (with_reducible repeat (first | refine blk_drewN ?_ _ | refine blk_drew ?_ | refine blk_alloc ?_ _)); refine blk_put (cs := #[.string (⟨#[]⟩ : ByteArray), .string (⟨#[]⟩ : ByteArray), .int .i64 0]) ?_ 0 _ rfl; (with_reducible repeat (first | refine blk_drewN ?_ _ | refine blk_drew ?_ | refine blk_alloc ?_ _)); refine blk_far ?_ NB242_249.out _; (with_reducible repeat (first | refine blk_drewN ?_ _ | refine blk_drew ?_ | refine blk_alloc ?_ _)); exact BK242.out) Tryz.underlying29 rfl (by kernel_rfl)) rfl ?_
 exact ⟨by first | rfl | (simp [errW_none, errW_some] <;> rfl) | (simp only [← hji8]; first | rfl | (simp [errW_none, errW_some] <;> rfl)) | (simp [*, errW_none, errW_some] <;> rfl), zq94⟩
end Go.Proofs.YtlmfoblgheepoaaGreatDoor.Pl
end
section
open Go.Proofs.YtlmfoblgheepoaaGreatDoor.Z
namespace Go.Proofs.YtlmfoblgheepoaaGreatDoor.Pl
open Go.RowKit Go.Proofs.YtlmfoblgheepoaaGreatDoorW.PrintWords Go.Proofs.YtlmfoblgheepoaaGreatDoorW.PrintLast Go.Proofs.YtlmfoblgheepoaaGreatDoorW.PrintMore
attribute [local go_sem] max2_int min2_int max_two min_two max_three min_three max_four min_four
set_option linter.unusedVariables false
set_option linter.unusedSimpArgs false
mutual
def dialtoneref12_Made.l0 : Nat → List (S23) → List (S29) → Int → Option ((List (S29)))
 | 0, _, _, _ => none
 | k + 1, x0, x3, x4 => if x4 < (x0.length : Int) then (if x4 < 16 then (dialtoneref12_Made.j1 k x0 x3 x4 (decide ((x3.length : Int) < 8))) else (dialtoneref12_Made.j1 k x0 x3 x4 false)) else (dialtoneref12_Made.j1 k x0 x3 x4 false)
def dialtoneref12_Made.j1 : Nat → List (S23) → List (S29) → Int → Bool → Option ((List (S29)))
 | 0, _, _, _, _ => none
 | k + 1, x0, x3, x4, x18 => if x18 = true then ((some (([] : List (S29)) : List (S29))).bind fun y251 => (if y251.length + x3.length < 3518437208883 then ((some (y251 ++ x3 : List (S29))).bind fun y254 => (if 0 ≤ x4 then (if x4 < (x0.length : Int) then ((dialtoneref12_One.f k ((rd_T23 x0 x4).f0) ((rd_T23 x0 x4).f1) ((rd_T23 x0 x4).f2)).bind fun bt258 => (if y254.length < 3518437208883 then ((some (y254 ++ [(⟨bt258.1, bt258.2.1, bt258.2.2⟩ : S29)] : List (S29))).bind fun y261 => ((dialtoneref12_Valid.f k y261).bind fun t264 => (if t264 = true then (dialtoneref12_Made.l0 k x0 y261 (wrap64 (x4 + 1))) else (dialtoneref12_Made.l0 k x0 x3 (wrap64 (x4 + 1)))))) else (none))) else (none)) else (none))) else (none))) else (some x3)
end
def dialtoneref12_Made.f (k : Nat) (l0 : List (S23)) : Option ((List (S29))) := dialtoneref12_Made.l0 k l0 ([] : List (S29)) 0
def dialtoneref12_Made.T5 : Bool × List (List Nat × List Nat) := (true, [([], []), ([], []), ([0, 1], [0, 1]), ([], []), ([], []), ([3, 4], [3, 4]), ([5], [5]), ([6, 2], [6]), ([7], [7]), ([2, 8, 7], [2, 8]), ([9, 9, 0, 1, 2, 3, 4, 5, 6, 7, 8, 9], [9])])
def dialtoneref12_Made.B5 : List Nat := [0, 0, 3, 0, 0, 24, 56, 127, 255, 511, 1023]
theorem dialtoneref12_Made.tab5 : rtab .any (opsOf Tryz.f12 5) = dialtoneref12_Made.T5 := by kernel_rfl
theorem dialtoneref12_Made.bits5 : waitsOk dialtoneref12_Made.T5.2 dialtoneref12_Made.B5 = true := by kernel_rfl
set_option maxHeartbeats 8000000 in
set_option maxRecDepth 100000 in
theorem dialtoneref12_Made.calls (k : Nat) (A0 : Option Addr) (c0 : Nat) (l0 : List (S23)) (r : List (S29)) (w : World) (hr0 : Kd.C k23 w A0 l0.length l0) (hc0 : l0.length ≤ c0) (h : dialtoneref12_Made.f k l0 = some r) :
 Calls Tryz.prog 12 #[.slice A0 l0.length c0] w fun e w' => ∃ v0_ : Value, e = .returned (v0_) ∧ Kd.R k29 29 w' w.heap.size (fun _ => True) v0_ r ∧ Below w.heap.size w w' := by
 have hu23 := Tryz.underlying23
 have HR0 := Aside0.mk hr0
 have HC0 := Aside0.mk hc0
 clear hr0 hc0
 have HB := Aside0.mk (Below.refl w.heap.size w)
 have H : (dialtoneref12_Made.l0 k l0 ([] : List (S29)) 0) = some r := h
 clear h
 have H' := Aside0.mk H
 clear H
 go_enter Tryz.func12, Tryz.ntmps12
 go_wp2
 go_loopg [3, 4] k (fun kq v3 v4 w' => ∃ (x3_1 : List (S29)) (x4_1 : Int), v4 = .int .i64 x4_1 ∧ Aside0 (dialtoneref12_Made.l0 kq l0 x3_1 x4_1 = some r) ∧ Aside0 (kq ≤ k) ∧ Aside0 (Kd.R k29 29 w' w.heap.size (fun _ => True) v3 x3_1) ∧ Aside0 (Below w.heap.size w w'))
 case atStart => exact ⟨(([] : List (S29))), (0), (zq1), H', ⟨Nat.le_refl _⟩, ⟨zq107⟩, ⟨zq5⟩⟩
 case round =>
  clear H'
  try clear c1
  obtain ⟨x3_1, x4_1, rfl, HA, HK1, HO_3, HB⟩ := hrel
  cases gk with
  | zero => exact absurd HA.out (by simp [dialtoneref12_Made.l0])
  | succ k1 =>
   have H := HA.out
   clear HA
   simp only [dialtoneref12_Made.l0] at H
   have HC2 := Aside0.mk H
   clear H
   go_upto_region 3 with (fail)
   go_cut [18] (fun v18 wc => ∃ (kq : Nat) (x18_1 : Bool), v18 = .bool x18_1 ∧ Aside0 (dialtoneref12_Made.j1 kq l0 x3_1 x4_1 x18_1 = some r) ∧ Aside0 (kq ≤ k1) ∧ Aside0 (Kd.R k29 29 wc w.heap.size (fun _ => True) u3 x3_1) ∧ Aside0 (Below w.heap.size w wc))
   case first =>
    have H := HC2.out
    clear HC2
    by_cases c3 : x4_1 < (l0.length : Int)
    rotate_left
    ·rw [if_neg c3] at H
     have c3b0 : decide (x4_1 < (l0.length : Int)) = false := decide_eq_false c3
     clear c3
     (first | rw [c3b0] | (simp only [i64_w, i32_w]; rw [c3b0]) | skip)
     have H' := Aside0.mk H
     clear H
     go_wp2
     go_meet
     case rel => exact ⟨_, (false), (zq1), H', ⟨zq108⟩, ⟨zq96⟩, ⟨zq5⟩⟩
    rw [if_pos c3] at H
    have c3b0 : decide (x4_1 < (l0.length : Int)) = true := decide_eq_true c3
    clear c3
    (first | rw [c3b0] | (simp only [i64_w, i32_w]; rw [c3b0]) | skip)
    by_cases c4 : x4_1 < 16
    rotate_left
    ·rw [if_neg c4] at H
     have c4b0 : decide (x4_1 < 16) = false := decide_eq_false c4
     clear c4
     have H' := Aside0.mk H
     clear H
     go_wp2
     go_meet
     case rel => exact ⟨_, (false), (zq1), H', ⟨zq108⟩, ⟨zq96⟩, ⟨zq5⟩⟩
    rw [if_pos c4] at H
    have c4b0 : decide (x4_1 < 16) = true := decide_eq_true c4
    clear c4
    have H' := Aside0.mk H
    clear H
    obtain ⟨Ao5, co5, eo5⟩ := Kd.R_slice HO_3.out
    subst eo5
    go_wp2
    go_meet
    case rel => exact ⟨_, (decide ((x3_1.length : Int) < 8)), (zq1), H', ⟨zq108⟩, ⟨zq96⟩, ⟨zq5⟩⟩
   case rest =>
    clear HC2
    try clear c1
    try clear p2
    try clear c3
    try clear c3b0
    try clear c4
    try clear c4b0
    obtain ⟨kq, x18_1, rfl, HA, HJ1, HO_3, HB⟩ := hcut
    cases kq with
    | zero => exact absurd HA.out (by simp [dialtoneref12_Made.j1])
    | succ kj1 =>
     have H := HA.out
     clear HA
     simp only [dialtoneref12_Made.j1] at H
     by_cases c6 : x18_1 = true
     rotate_left
     ·replace c6 := Bool.eq_false_iff.mpr c6
      subst c6
      rw [if_neg (show ¬ (false = true) by decide)] at H
      obtain rfl := Option.some.inj H
      go_wp2
      go_ret
      exact ⟨_, zq6, zq96, zq5⟩
     subst c6
     rw [if_pos rfl] at H
     obtain ⟨y251, hy251⟩ : ∃ y_ : List (S29), y_ = (([] : List (S29))) := ⟨_, rfl⟩
     replace H : (if y251.length + x3_1.length < 3518437208883 then ((some (y251 ++ x3_1 : List (S29))).bind fun y254 => (if 0 ≤ x4_1 then (if x4_1 < (l0.length : Int) then ((dialtoneref12_One.f kj1 ((rd_T23 l0 x4_1).f0) ((rd_T23 l0 x4_1).f1) ((rd_T23 l0 x4_1).f2)).bind fun bt258 => (if y254.length < 3518437208883 then ((some (y254 ++ [(⟨bt258.1, bt258.2.1, bt258.2.2⟩ : S29)] : List (S29))).bind fun y261 => ((dialtoneref12_Valid.f kj1 y261).bind fun t264 => (if t264 = true then (dialtoneref12_Made.l0 kj1 l0 y261 (wrap64 (x4_1 + 1))) else (dialtoneref12_Made.l0 kj1 l0 x3_1 (wrap64 (x4_1 + 1)))))) else (none))) else (none)) else (none))) else (none)) = some r := by first | (rw [hy251]; with_reducible exact H) | (have H2_ := (Option.bind_some _ _).symm.trans H; rw [hy251]; with_reducible exact H2_) | (have H2_ := (Option.bind_some _ _).symm.trans H; with_reducible exact H2_) | with_reducible exact H | (rw [hy251]; exact H) | exact H
     have Ny251 := Aside0.mk hy251
     clear hy251
     by_cases c7 : y251.length + x3_1.length < 3518437208883
     rotate_left
     ·rw [if_neg c7] at H
      exact absurd H (by simp)
     rw [if_pos c7] at H
     have LMc7 := Aside0.mk c7
     clear c7
     obtain ⟨y254, hy254⟩ : ∃ y_ : List (S29), y_ = (y251 ++ x3_1) := ⟨_, rfl⟩
     replace H : (if 0 ≤ x4_1 then (if x4_1 < (l0.length : Int) then ((dialtoneref12_One.f kj1 ((rd_T23 l0 x4_1).f0) ((rd_T23 l0 x4_1).f1) ((rd_T23 l0 x4_1).f2)).bind fun bt258 => (if y254.length < 3518437208883 then ((some (y254 ++ [(⟨bt258.1, bt258.2.1, bt258.2.2⟩ : S29)] : List (S29))).bind fun y261 => ((dialtoneref12_Valid.f kj1 y261).bind fun t264 => (if t264 = true then (dialtoneref12_Made.l0 kj1 l0 y261 (wrap64 (x4_1 + 1))) else (dialtoneref12_Made.l0 kj1 l0 x3_1 (wrap64 (x4_1 + 1)))))) else (none))) else (none)) else (none)) = some r := by first | (rw [hy254]; with_reducible exact H) | (have H2_ := (Option.bind_some _ _).symm.trans H; rw [hy254]; with_reducible exact H2_) | (have H2_ := (Option.bind_some _ _).symm.trans H; with_reducible exact H2_) | with_reducible exact H | (rw [hy254]; exact H) | exact H
     have Ny254 := Aside0.mk hy254
     clear hy254
     by_cases c8 : 0 ≤ x4_1
     rotate_left
     ·rw [if_neg c8] at H
      exact absurd H (by simp)
     rw [if_pos c8] at H
     have c8b0 : decide (0 ≤ x4_1) = true := decide_eq_true c8
     clear c8
     by_cases c9 : x4_1 < (l0.length : Int)
     rotate_left
     ·rw [if_neg c9] at H
      exact absurd H (by simp)
     rw [if_pos c9] at H
     have c9b0 : decide (x4_1 < (l0.length : Int)) = true := decide_eq_true c9
     clear c9
     replace H := Option.bind_eq_some_iff.mp H
     obtain ⟨⟨t258, t259, t260⟩, A100, H⟩ := H
     try dsimp only at H
     have A10 := Aside0.mk A100
     clear A100
     by_cases c11 : y254.length < 3518437208883
     rotate_left
     ·rw [if_neg c11] at H
      exact absurd H (by simp)
     rw [if_pos c11] at H
     have LMc11 := Aside0.mk c11
     clear c11
     obtain ⟨y261, hy261⟩ : ∃ y_ : List (S29), y_ = (y254 ++ [(⟨t258, t259, t260⟩ : S29)]) := ⟨_, rfl⟩
     replace H : ((dialtoneref12_Valid.f kj1 y261).bind fun t264 => (if t264 = true then (dialtoneref12_Made.l0 kj1 l0 y261 (wrap64 (x4_1 + 1))) else (dialtoneref12_Made.l0 kj1 l0 x3_1 (wrap64 (x4_1 + 1))))) = some r := by first | (rw [hy261]; with_reducible exact H) | (have H2_ := (Option.bind_some _ _).symm.trans H; rw [hy261]; with_reducible exact H2_) | (have H2_ := (Option.bind_some _ _).symm.trans H; with_reducible exact H2_) | with_reducible exact H | (rw [hy261]; exact H) | exact H
     have Ny261 := Aside0.mk hy261
     clear hy261
     replace H := Option.bind_eq_some_iff.mp H
     obtain ⟨t264, A120, H⟩ := H
     try dsimp only at H
     have A12 := Aside0.mk A120
     clear A120
     by_cases c13 : t264 = true
     ·subst c13
      rw [if_pos rfl] at H
      have H' := Aside0.mk H
      clear H
      try go_wp2
      replace HO_3 := Aside0.mk (Kd.R_drew HO_3.out)
      replace HB := Aside0.mk (below_drew1 HB.out)
      have p257 : 0 ≤ (x4_1 : Int) := of_decide_eq_true (zq18)
      have q257 : x4_1 < (l0.length : Int) := of_decide_eq_true (zq18)
      obtain ⟨ad257, e257, hx257_0, hx257_1, hx257_2⟩ := at_T23 HR0.out x4_1 p257 q257
      have hw257_2 := hx257_2
      have hw257_1 := hx257_1
      have hw257_0 := hx257_0
      cases e257
      replace hx257_0 := (HB.out.cell (World.block_lt_of_cell? w _ hx257_0)).trans hx257_0
      replace hx257_1 := (HB.out.cell (World.block_lt_of_cell? w _ hx257_1)).trans hx257_1
      replace hx257_2 := (HB.out.cell (World.block_lt_of_cell? w _ hx257_2)).trans hx257_2
      replace p257 := eq_true p257
      replace q257 := eq_true q257
      refine start_ (n := 11) (S := fun w' => w'.cell? (ad257.add ((x4_1).toNat * 3)) = some (.int .i64 ((rd_T23 l0 x4_1).f0)) ∧ w'.cell? ⟨(ad257.add ((x4_1).toNat * 3)).block, (ad257.add ((x4_1).toNat * 3)).off + 1, none⟩ = some (.int .i64 ((rd_T23 l0 x4_1).f1)) ∧ w'.cell? ⟨(ad257.add ((x4_1).toNat * 3)).block, (ad257.add ((x4_1).toNat * 3)).off + 2, none⟩ = some (.int .i64 ((rd_T23 l0 x4_1).f2))) (ds := []) (bm 11 0) (by kernel_rfl) rfl rfl ⟨((HB.out.cell (World.block_lt_of_cell? w _ hw257_0)).trans hw257_0), ((HB.out.cell (World.block_lt_of_cell? w _ hw257_1)).trans hw257_1), ((HB.out.cell (World.block_lt_of_cell? w _ hw257_2)).trans hw257_2)⟩ (fun hHeld => ?_); refine with_tabW dialtoneref12_Made.tab5 dialtoneref12_Made.bits5 (fun HT_ HW_ => ?_)
      generalize wc.drew = w14 at HO_3 HB hx257_0 hx257_1 hx257_2 hHeld ⊢
      refine pz 1 (some 22) (bm 11 2) HT_ ?_
      refine pz 3 (some 24) (bm 11 10) HT_ ?_
      refine pz 4 (some 25) (bm 11 26) HT_ ?_
      refine pz 5 (some 26) (bm 11 58) HT_ ?_
      refine tz 6 (some 27) (bm 11 122) HT_ HW_ hHeld ?_
      refine one_ (i := 0) (N := some 21) (bm 11 123) rfl rfl (one_of HT_.out (by kernel_rfl)) (by decide) (fun K hK => ?_)
      refine Kd.R_lit_step k29 _ 29 ?hg (N := 21) ?hd (xs := ([] : List (S29))) (inner := []) (ok := fun _ => True) (okp := fun _ => True) ?hr ?hp (fun _ hk => hk) trivial (Below.refl _ _) (Nat.le_refl _) (by simp) ?_; (case hd => rfl); (case hg => rfl); (case hr => exact zq3); (case hp => exact zq95)
      intro v252 w15 ho16 hb hg_ hnew_
      clear hg_ hnew_
      (first | rw [← Ny251.out] at ho16 | (simp only [Int.reduceToNat] at ho16; rw [← Ny251.out] at ho16))
      have HO253 := Aside0.mk (Kd.R_lower (Kd.R_new' ho16 (Kd.R_lt (zq96))) (below_size (zq5)))
      replace HO_3 := Aside0.mk (Kd.R_elder' (zq96) (Kd.R_base ho16) hb)
      replace HB := Aside0.mk (below_step (zq5) hb)
      clear hb ho16
      obtain ⟨Ao18, co18, eo18⟩ := Kd.R_slice HO_3.out
      (first | subst eo18 | (injection eo18 with f1_ f2_ f3_; have f4_ := f1_.symm; have f5_ := f3_.symm; clear f1_ f2_ f3_; subst f4_; subst f5_))
      refine hK.out _ _ ⟨((HB.out.cell (World.block_lt_of_cell? w _ hw257_0)).trans hw257_0), ((HB.out.cell (World.block_lt_of_cell? w _ hw257_1)).trans hw257_1), ((HB.out.cell (World.block_lt_of_cell? w _ hw257_2)).trans hw257_2)⟩ (fun hHeld => ?_)
      clear hK K
      refine nz (some 21) ?_
      refine one_ (i := 2) (N := some 23) (bm 11 127) rfl rfl (one_of HT_.out (by kernel_rfl)) (by decide) (fun K hK => ?_)
      refine Kd.R_append_rows_step k29 (w0 := w) w.heap.size (by rfl) (.tmp 21) (.tmp 22) 24 29 (.agg #[(.string ⟨#[]⟩), (.string ⟨#[]⟩), (.int .i64 0)]) 40 rfl Tryz.underlying24 info29 rfl (by decide) (by omega) v252 y251 x3_1 _ _ _ (fun k_ => some k_ ≠ (.slice Ao18 x3_1.length co18 : Value).ownBlock) (fun _ => False) rfl rfl ?aO ?aR (fun _ _ h => h) (fun _ h => h.elim) ?aF ?aB ?aS ?aL ?_
      (case aR => exact zq97)
      (case aB => exact zq98)
      (case aF => exact zq99)
      (case aO => exact zq100)
      (case aS => exact zq102)
      (case aL => have := LMc7.out; omega)
      intro v255 w17 ho hb hg hat
      rw [← Ny254.out] at ho
      replace HO_3 := Aside0.mk (Kd.R_after (ok := (fun _ => True)) (zq96) hg hat)
      replace HB := Aside0.mk (hb)
      have HO256 := Aside0.mk (ho)
      clear HO253
      clear ho hb hg hat
      refine hK.out _ _ ⟨((HB.out.cell (World.block_lt_of_cell? w _ hw257_0)).trans hw257_0), ((HB.out.cell (World.block_lt_of_cell? w _ hw257_1)).trans hw257_1), ((HB.out.cell (World.block_lt_of_cell? w _ hw257_2)).trans hw257_2)⟩ (fun hHeld => ?_)
      clear hK K
      refine nz (some 23) ?_
      refine one_ (i := 7) (N := some 28) (bm 11 255) rfl rfl (one_of HT_.out (by kernel_rfl)) (by decide) (fun K hK => ?_)
      refine goes_ Tryz.func29 (by kernel_rfl) rfl #[.agg #[.int .i64 ((rd_T23 l0 x4_1).f0), .int .i64 ((rd_T23 l0 x4_1).f1), .int .i64 ((rd_T23 l0 x4_1).f2)]] (by rfl) rfl rfl (zq7) ?_
      with_reducible refine (dialtoneref12_One.calls kj1 ((rd_T23 l0 x4_1).f0) ((rd_T23 l0 x4_1).f1) ((rd_T23 l0 x4_1).f2) t258 t259 t260 _ A10.out).mono ?_
      rintro e w19 ⟨rfl, hb⟩
      refine ⟨_, rfl, ?_⟩
      replace HO_3 := Aside0.mk (Kd.R_below (zq96) hb)
      replace HO256 := Aside0.mk (Kd.R_below (zq103) hb)
      replace HB := Aside0.mk (below_step (zq5) hb)
      (try clear hb)
      (try clear hb2)
      (try clear hk)
      (try clear hi)
      refine hK.out _ _ ⟨((HB.out.cell (World.block_lt_of_cell? w _ hw257_0)).trans hw257_0), ((HB.out.cell (World.block_lt_of_cell? w _ hw257_1)).trans hw257_1), ((HB.out.cell (World.block_lt_of_cell? w _ hw257_2)).trans hw257_2)⟩ (fun hHeld => ?_)
      clear hK K
      refine nz (some 28) ?_
      refine one_ (i := 8) (N := some 29) (bm 11 511) rfl rfl (one_of HT_.out (by kernel_rfl)) (by decide) (fun K hK => ?_)
      refine value_ (w1 := ?_) (v := ?_) (by rfl) rfl ?_ ?_
      rotate_left 2
      ·go_simp
       constructor
       ·rfl
       ·rfl
      refine hK.out _ _ ⟨(World.cell?_alloc_lt _ _ _ (World.block_lt_of_cell? _ _ (((HB.out.cell (World.block_lt_of_cell? w _ hw257_0)).trans hw257_0)))).trans (((HB.out.cell (World.block_lt_of_cell? w _ hw257_0)).trans hw257_0)), (World.cell?_alloc_lt _ _ _ (World.block_lt_of_cell? _ _ (((HB.out.cell (World.block_lt_of_cell? w _ hw257_1)).trans hw257_1)))).trans (((HB.out.cell (World.block_lt_of_cell? w _ hw257_1)).trans hw257_1)), (World.cell?_alloc_lt _ _ _ (World.block_lt_of_cell? _ _ (((HB.out.cell (World.block_lt_of_cell? w _ hw257_2)).trans hw257_2)))).trans (((HB.out.cell (World.block_lt_of_cell? w _ hw257_2)).trans hw257_2))⟩ (fun hHeld => ?_)
      clear hK K
      refine nz (some 29) ?_
      refine one_ (i := 9) (N := some 30) (bm 11 1023) rfl rfl (one_of HT_.out (by kernel_rfl)) (by decide) (fun K hK => ?_)
      refine Kd.R_append_step k29 (w0 := w) w.heap.size (by rfl) (.tmp 23) (.tmp 29) 24 29 (.agg #[(.string ⟨#[]⟩), (.string ⟨#[]⟩), (.int .i64 0)]) 40 rfl Tryz.underlying24 info29 rfl (by decide) (by omega) v255 y254 (⟨t258, t259, t260⟩ : S29) [.string t258, .string t259, .int .i64 t260] (fun k_ => some k_ ≠ (.slice Ao18 x3_1.length co18 : Value).ownBlock) (fun _ => False) rfl rfl ?aP (fun _ hk => hk.elim) ?aF ?aO ?aB ?aS ?aL ?_
      (case aP => exact k29_mkM _ _ _ (⟨t258, t259, t260⟩ : S29))
      (case aB => exact zq98)
      (case aF => exact zq99)
      (case aO => exact zq104)
      (case aS => exact zq102)
      (case aL => have := LMc11.out; omega)
      intro v262 w20 ho hb hg hat
      rw [← Ny261.out] at ho
      replace HO_3 := Aside0.mk (Kd.R_after (ok := (fun _ => True)) (zq96) hg hat)
      replace HB := Aside0.mk (hb)
      have HO263 := Aside0.mk (ho)
      clear HO256
      clear ho hb hg hat
      refine hK.out _ _ ⟨((HB.out.cell (World.block_lt_of_cell? w _ hw257_0)).trans hw257_0), ((HB.out.cell (World.block_lt_of_cell? w _ hw257_1)).trans hw257_1), ((HB.out.cell (World.block_lt_of_cell? w _ hw257_2)).trans hw257_2)⟩ (fun hHeld => ?_)
      clear hK K
      refine nz (some 30) ?_
      refine pz 10 (some 5) (bm 11 2047) HT_ ?_
      refine done_ (done_of HT_.out (by kernel_rfl)) ?_
      obtain ⟨Ao21, co21, eo21⟩ := Kd.R_slice HO263.out
      subst eo21
      try go_wp2_with (first | ((with_reducible refine gate_callee (f := 26) rfl ?_); refine goesL_ (some 32) rfl rfl Tryz.func26 (by kernel_rfl) rfl #[.slice Ao21 y261.length co21] rfl (zq7) ?_; (with_reducible refine (dialtoneref12_Valid.calls kj1 _ _ y261 true _ ?side1 ?side2 A12.out).mono ?_); (case side1 => exact zq105); (case side2 => exact (Kd.R_reads' HO263.out).2.1); rintro e w22 ⟨rfl, hb⟩; refine ⟨_, rfl, ?_⟩; replace HO_3 := Aside0.mk (Kd.R_below (zq96) hb); replace HO263 := Aside0.mk (Kd.R_below (zq106) hb); replace HB := Aside0.mk (below_step (zq5) hb); (try clear hb); (try clear hb2); (try clear hk); (try clear hi)))
      go_roundg kj1
      case measure => have := HK1.out; have := HJ1.out; omega
      case rel => exact ⟨(y261), (wrap64 (x4_1 + 1)), (zq1), H', ⟨by have := HK1.out; have := HJ1.out; omega⟩, ⟨by (with_reducible repeat (first | apply Kd.R_alloc | apply Kd.R_drewN | apply Kd.R_drew)); exact Kd.R_mono HO263.out (fun _ hk => trivial)⟩, ⟨zq5⟩⟩
     replace c13 := Bool.eq_false_iff.mpr c13
     subst c13
     rw [if_neg (show ¬ (false = true) by decide)] at H
     have H' := Aside0.mk H
     clear H
     try go_wp2
     replace HO_3 := Aside0.mk (Kd.R_drew HO_3.out)
     replace HB := Aside0.mk (below_drew1 HB.out)
     have p257 : 0 ≤ (x4_1 : Int) := of_decide_eq_true (zq18)
     have q257 : x4_1 < (l0.length : Int) := of_decide_eq_true (zq18)
     obtain ⟨ad257, e257, hx257_0, hx257_1, hx257_2⟩ := at_T23 HR0.out x4_1 p257 q257
     have hw257_2 := hx257_2
     have hw257_1 := hx257_1
     have hw257_0 := hx257_0
     cases e257
     replace hx257_0 := (HB.out.cell (World.block_lt_of_cell? w _ hx257_0)).trans hx257_0
     replace hx257_1 := (HB.out.cell (World.block_lt_of_cell? w _ hx257_1)).trans hx257_1
     replace hx257_2 := (HB.out.cell (World.block_lt_of_cell? w _ hx257_2)).trans hx257_2
     replace p257 := eq_true p257
     replace q257 := eq_true q257
     refine start_ (n := 11) (S := fun w' => w'.cell? (ad257.add ((x4_1).toNat * 3)) = some (.int .i64 ((rd_T23 l0 x4_1).f0)) ∧ w'.cell? ⟨(ad257.add ((x4_1).toNat * 3)).block, (ad257.add ((x4_1).toNat * 3)).off + 1, none⟩ = some (.int .i64 ((rd_T23 l0 x4_1).f1)) ∧ w'.cell? ⟨(ad257.add ((x4_1).toNat * 3)).block, (ad257.add ((x4_1).toNat * 3)).off + 2, none⟩ = some (.int .i64 ((rd_T23 l0 x4_1).f2))) (ds := []) (bm 11 0) (by kernel_rfl) rfl rfl ⟨((HB.out.cell (World.block_lt_of_cell? w _ hw257_0)).trans hw257_0), ((HB.out.cell (World.block_lt_of_cell? w _ hw257_1)).trans hw257_1), ((HB.out.cell (World.block_lt_of_cell? w _ hw257_2)).trans hw257_2)⟩ (fun hHeld => ?_); refine with_tabW dialtoneref12_Made.tab5 dialtoneref12_Made.bits5 (fun HT_ HW_ => ?_)
     generalize wc.drew = w23 at HO_3 HB hx257_0 hx257_1 hx257_2 hHeld ⊢
     refine pz 1 (some 22) (bm 11 2) HT_ ?_
     refine pz 3 (some 24) (bm 11 10) HT_ ?_
     refine pz 4 (some 25) (bm 11 26) HT_ ?_
     refine pz 5 (some 26) (bm 11 58) HT_ ?_
     refine tz 6 (some 27) (bm 11 122) HT_ HW_ hHeld ?_
     refine one_ (i := 0) (N := some 21) (bm 11 123) rfl rfl (one_of HT_.out (by kernel_rfl)) (by decide) (fun K hK => ?_)
     refine Kd.R_lit_step k29 _ 29 ?hg (N := 21) ?hd (xs := ([] : List (S29))) (inner := []) (ok := fun _ => True) (okp := fun _ => True) ?hr ?hp (fun _ hk => hk) trivial (Below.refl _ _) (Nat.le_refl _) (by simp) ?_; (case hd => rfl); (case hg => rfl); (case hr => exact zq3); (case hp => exact zq95)
     intro v252 w24 ho25 hb hg_ hnew_
     clear hg_ hnew_
     (first | rw [← Ny251.out] at ho25 | (simp only [Int.reduceToNat] at ho25; rw [← Ny251.out] at ho25))
     have HO253 := Aside0.mk (Kd.R_lower (Kd.R_new' ho25 (Kd.R_lt (zq96))) (below_size (zq5)))
     replace HO_3 := Aside0.mk (Kd.R_elder' (zq96) (Kd.R_base ho25) hb)
     replace HB := Aside0.mk (below_step (zq5) hb)
     clear hb ho25
     obtain ⟨Ao27, co27, eo27⟩ := Kd.R_slice HO_3.out
     (first | subst eo27 | (injection eo27 with f1_ f2_ f3_; have f4_ := f1_.symm; have f5_ := f3_.symm; clear f1_ f2_ f3_; subst f4_; subst f5_))
     refine hK.out _ _ ⟨((HB.out.cell (World.block_lt_of_cell? w _ hw257_0)).trans hw257_0), ((HB.out.cell (World.block_lt_of_cell? w _ hw257_1)).trans hw257_1), ((HB.out.cell (World.block_lt_of_cell? w _ hw257_2)).trans hw257_2)⟩ (fun hHeld => ?_)
     clear hK K
     refine nz (some 21) ?_
     refine one_ (i := 2) (N := some 23) (bm 11 127) rfl rfl (one_of HT_.out (by kernel_rfl)) (by decide) (fun K hK => ?_)
     refine Kd.R_append_rows_step k29 (w0 := w) w.heap.size (by rfl) (.tmp 21) (.tmp 22) 24 29 (.agg #[(.string ⟨#[]⟩), (.string ⟨#[]⟩), (.int .i64 0)]) 40 rfl Tryz.underlying24 info29 rfl (by decide) (by omega) v252 y251 x3_1 _ _ _ (fun k_ => some k_ ≠ (.slice Ao27 x3_1.length co27 : Value).ownBlock) (fun _ => False) rfl rfl ?aO ?aR (fun _ _ h => h) (fun _ h => h.elim) ?aF ?aB ?aS ?aL ?_
     (case aR => exact zq97)
     (case aB => exact zq98)
     (case aF => exact zq99)
     (case aO => exact zq100)
     (case aS => exact zq102)
     (case aL => have := LMc7.out; omega)
     intro v255 w26 ho hb hg hat
     rw [← Ny254.out] at ho
     replace HO_3 := Aside0.mk (Kd.R_after (ok := (fun _ => True)) (zq96) hg hat)
     replace HB := Aside0.mk (hb)
     have HO256 := Aside0.mk (ho)
     clear HO253
     clear ho hb hg hat
     refine hK.out _ _ ⟨((HB.out.cell (World.block_lt_of_cell? w _ hw257_0)).trans hw257_0), ((HB.out.cell (World.block_lt_of_cell? w _ hw257_1)).trans hw257_1), ((HB.out.cell (World.block_lt_of_cell? w _ hw257_2)).trans hw257_2)⟩ (fun hHeld => ?_)
     clear hK K
     refine nz (some 23) ?_
     refine one_ (i := 7) (N := some 28) (bm 11 255) rfl rfl (one_of HT_.out (by kernel_rfl)) (by decide) (fun K hK => ?_)
     refine goes_ Tryz.func29 (by kernel_rfl) rfl #[.agg #[.int .i64 ((rd_T23 l0 x4_1).f0), .int .i64 ((rd_T23 l0 x4_1).f1), .int .i64 ((rd_T23 l0 x4_1).f2)]] (by rfl) rfl rfl (zq7) ?_
     with_reducible refine (dialtoneref12_One.calls kj1 ((rd_T23 l0 x4_1).f0) ((rd_T23 l0 x4_1).f1) ((rd_T23 l0 x4_1).f2) t258 t259 t260 _ A10.out).mono ?_
     rintro e w28 ⟨rfl, hb⟩
     refine ⟨_, rfl, ?_⟩
     replace HO_3 := Aside0.mk (Kd.R_below (zq96) hb)
     replace HO256 := Aside0.mk (Kd.R_below (zq103) hb)
     replace HB := Aside0.mk (below_step (zq5) hb)
     (try clear hb)
     (try clear hb2)
     (try clear hk)
     (try clear hi)
     refine hK.out _ _ ⟨((HB.out.cell (World.block_lt_of_cell? w _ hw257_0)).trans hw257_0), ((HB.out.cell (World.block_lt_of_cell? w _ hw257_1)).trans hw257_1), ((HB.out.cell (World.block_lt_of_cell? w _ hw257_2)).trans hw257_2)⟩ (fun hHeld => ?_)
     clear hK K
     refine nz (some 28) ?_
     refine one_ (i := 8) (N := some 29) (bm 11 511) rfl rfl (one_of HT_.out (by kernel_rfl)) (by decide) (fun K hK => ?_)
     refine value_ (w1 := ?_) (v := ?_) (by rfl) rfl ?_ ?_
     rotate_left 2
     ·go_simp
      constructor
      ·rfl
      ·rfl
     refine hK.out _ _ ⟨(World.cell?_alloc_lt _ _ _ (World.block_lt_of_cell? _ _ (((HB.out.cell (World.block_lt_of_cell? w _ hw257_0)).trans hw257_0)))).trans (((HB.out.cell (World.block_lt_of_cell? w _ hw257_0)).trans hw257_0)), (World.cell?_alloc_lt _ _ _ (World.block_lt_of_cell? _ _ (((HB.out.cell (World.block_lt_of_cell? w _ hw257_1)).trans hw257_1)))).trans (((HB.out.cell (World.block_lt_of_cell? w _ hw257_1)).trans hw257_1)), (World.cell?_alloc_lt _ _ _ (World.block_lt_of_cell? _ _ (((HB.out.cell (World.block_lt_of_cell? w _ hw257_2)).trans hw257_2)))).trans (((HB.out.cell (World.block_lt_of_cell? w _ hw257_2)).trans hw257_2))⟩ (fun hHeld => ?_)
     clear hK K
     refine nz (some 29) ?_
     refine one_ (i := 9) (N := some 30) (bm 11 1023) rfl rfl (one_of HT_.out (by kernel_rfl)) (by decide) (fun K hK => ?_)
     refine Kd.R_append_step k29 (w0 := w) w.heap.size (by rfl) (.tmp 23) (.tmp 29) 24 29 (.agg #[(.string ⟨#[]⟩), (.string ⟨#[]⟩), (.int .i64 0)]) 40 rfl Tryz.underlying24 info29 rfl (by decide) (by omega) v255 y254 (⟨t258, t259, t260⟩ : S29) [.string t258, .string t259, .int .i64 t260] (fun k_ => some k_ ≠ (.slice Ao27 x3_1.length co27 : Value).ownBlock) (fun _ => False) rfl rfl ?aP (fun _ hk => hk.elim) ?aF ?aO ?aB ?aS ?aL ?_
     (case aP => exact k29_mkM _ _ _ (⟨t258, t259, t260⟩ : S29))
     (case aB => exact zq98)
     (case aF => exact zq99)
     (case aO => exact zq104)
     (case aS => exact zq102)
     (case aL => have := LMc11.out; omega)
     intro v262 w29 ho hb hg hat
     rw [← Ny261.out] at ho
     replace HO_3 := Aside0.mk (Kd.R_after (ok := (fun _ => True)) (zq96) hg hat)
     replace HB := Aside0.mk (hb)
     have HO263 := Aside0.mk (ho)
     clear HO256
     clear ho hb hg hat
     refine hK.out _ _ ⟨((HB.out.cell (World.block_lt_of_cell? w _ hw257_0)).trans hw257_0), ((HB.out.cell (World.block_lt_of_cell? w _ hw257_1)).trans hw257_1), ((HB.out.cell (World.block_lt_of_cell? w _ hw257_2)).trans hw257_2)⟩ (fun hHeld => ?_)
     clear hK K
     refine nz (some 30) ?_
     refine pz 10 (some 5) (bm 11 2047) HT_ ?_
     refine done_ (done_of HT_.out (by kernel_rfl)) ?_
     obtain ⟨Ao30, co30, eo30⟩ := Kd.R_slice HO263.out
     subst eo30
     try go_wp2_with (first | ((with_reducible refine gate_callee (f := 26) rfl ?_); refine goesL_ (some 32) rfl rfl Tryz.func26 (by kernel_rfl) rfl #[.slice Ao30 y261.length co30] rfl (zq7) ?_; (with_reducible refine (dialtoneref12_Valid.calls kj1 _ _ y261 false _ ?side1 ?side2 A12.out).mono ?_); (case side1 => exact zq105); (case side2 => exact (Kd.R_reads' HO263.out).2.1); rintro e w31 ⟨rfl, hb⟩; refine ⟨_, rfl, ?_⟩; replace HO_3 := Aside0.mk (Kd.R_below (zq96) hb); replace HO263 := Aside0.mk (Kd.R_below (zq106) hb); replace HB := Aside0.mk (below_step (zq5) hb); (try clear hb); (try clear hb2); (try clear hk); (try clear hi)))
     go_roundg kj1
     case measure => have := HK1.out; have := HJ1.out; omega
     case rel => exact ⟨(x3_1), (wrap64 (x4_1 + 1)), (zq1), H', ⟨by have := HK1.out; have := HJ1.out; omega⟩, ⟨by (with_reducible repeat (first | apply Kd.R_alloc | apply Kd.R_drewN | apply Kd.R_drew)); exact Kd.R_mono HO_3.out (fun _ hk => trivial)⟩, ⟨zq5⟩⟩
def dialtoneref12_phase.f (a0 : Int) : Option (Bool) := if a0 ≥ 1 then (some (decide (a0 ≤ 3))) else (some false)
set_option maxHeartbeats 8000000 in
set_option maxRecDepth 100000 in
theorem dialtoneref12_phase.calls (a0 : Int) (r : Bool) (w : World) (h : dialtoneref12_phase.f a0 = some r) :
 Calls Tryz.prog 41 #[.int .i64 a0] w fun e w' => e = .returned (.bool r) ∧ Drawn0 w w' := by
 have H : (if a0 ≥ 1 then (some (decide (a0 ≤ 3))) else (some false)) = some r := h
 clear h
 by_cases c2 : a0 ≥ 1
 ·rw [if_pos c2] at H
  have c2b0 : decide (1 ≤ a0) = true := decide_eq_true c2
  clear c2
  obtain rfl := Option.some.inj H
  go_enter Tryz.func41, Tryz.ntmps41
  go_wp2
  go_ret
  exact ⟨zq1, zq2⟩
 rw [if_neg c2] at H
 have c2b0 : decide (1 ≤ a0) = false := decide_eq_false c2
 clear c2
 obtain rfl := Option.some.inj H
 go_enter Tryz.func41, Tryz.ntmps41
 go_wp2
 go_ret
 exact ⟨zq1, zq2⟩
def dialtoneref12_value.l0 : Nat → ByteArray → Int → Int → Option (Int)
 | 0, _, _, _ => none
 | k + 1, x0, x3, x4 => if x4 < (x0.size : Int) then (if 0 ≤ x4 then (dialtoneref12_value.l0 k x0 (wrap64 ((wrap64 (10 * x3)) + (((bt x0 x4) - 48) % 256))) (wrap64 (x4 + 1))) else (none)) else (some x3)
def dialtoneref12_value.f (k : Nat) (a0 : ByteArray) : Option (Int) := dialtoneref12_value.l0 k a0 0 0
set_option maxHeartbeats 8000000 in
set_option maxRecDepth 100000 in
theorem dialtoneref12_value.calls (k : Nat) (a0 : ByteArray) (r : Int) (w : World) (h : dialtoneref12_value.f k a0 = some r) :
 Calls Tryz.prog 47 #[.string a0] w fun e w' => e = .returned (.int .i64 r) ∧ Drawn0 w w' := by
 have H : (dialtoneref12_value.l0 k a0 0 0) = some r := h
 clear h
 have H' := Aside0.mk H
 clear H
 go_enter Tryz.func47, Tryz.ntmps47
 go_wp2
 go_loopg [3, 4] k (fun kq v3 v4 w' => ∃ (x3_1 : Int) (x4_1 : Int), v3 = .int .i64 x3_1 ∧ v4 = .int .i64 x4_1 ∧ Aside0 (dialtoneref12_value.l0 kq a0 x3_1 x4_1 = some r) ∧ Aside0 (kq ≤ k) ∧ Drawn0 w w')
 case atStart => exact ⟨(0), (0), (zq1), (zq1), H', ⟨Nat.le_refl _⟩, zq2⟩
 case round =>
  clear H'
  obtain ⟨x3_1, x4_1, rfl, rfl, HA, HK1, ⟨m1, rfl⟩⟩ := hrel
  cases gk with
  | zero => exact absurd HA.out (by simp [dialtoneref12_value.l0])
  | succ k1 =>
   have H := HA.out
   clear HA
   simp only [dialtoneref12_value.l0] at H
   by_cases c2 : x4_1 < (a0.size : Int)
   rotate_left
   ·rw [if_neg c2] at H
    have c2b0 : decide (x4_1 < (a0.size : Int)) = false := decide_eq_false c2
    clear c2
    obtain rfl := Option.some.inj H
    go_wp2
    go_ret
    exact ⟨zq1, zq2⟩
   rw [if_pos c2] at H
   have c2b0 : decide (x4_1 < (a0.size : Int)) = true := decide_eq_true c2
   clear c2
   by_cases c3 : 0 ≤ x4_1
   rotate_left
   ·rw [if_neg c3] at H
    exact absurd H (by simp)
   rw [if_pos c3] at H
   have c3b0 : decide (0 ≤ x4_1) = true := decide_eq_true c3
   clear c3
   have H' := Aside0.mk H
   clear H
   have p4 : 0 ≤ (x4_1 : Int) := of_decide_eq_true (zq18)
   have q4 : x4_1 < (a0.size : Int) := of_decide_eq_true (zq18)
   have hx4 := bt_at a0 x4_1
   replace p4 := eq_true p4
   replace q4 := eq_true q4
   go_wp2
   go_roundg k1
   case measure => have := HK1.out; omega
   case rel => exact ⟨(wrap64 ((wrap64 (10 * x3_1)) + (((bt a0 x4_1) - 48) % 256))), (wrap64 (x4_1 + 1)), (zq1), (zq1), H', ⟨zq32⟩, zq2⟩
def dialtoneref12_local.f (a0_0 : ByteArray) (a0_1 : ByteArray) (a0_2 : Int) : Option (Int) := some (wrap64 (a0_2 - (a0_0.size : Int)))
set_option maxHeartbeats 8000000 in
set_option maxRecDepth 100000 in
theorem dialtoneref12_local.calls (a0_0 : ByteArray) (a0_1 : ByteArray) (a0_2 : Int) (r : Int) (w : World) (h : dialtoneref12_local.f a0_0 a0_1 a0_2 = some r) :
 Calls Tryz.prog 48 #[.agg #[.string a0_0, .string a0_1, .int .i64 a0_2]] w fun e w' => e = .returned (.int .i64 r) ∧ Below w.heap.size w w' := by
 have hu29 := Tryz.underlying29
 have HB := Aside0.mk (Below.refl w.heap.size w)
 have H : (some (wrap64 (a0_2 - (a0_0.size : Int)))) = some r := h
 clear h
 obtain rfl := Option.some.inj H
 go_enter Tryz.func48, Tryz.ntmps48
 go_wp2_with (first | ((with_reducible refine gate_dst (N := 1) rfl ?_); refine box_event ?hg (N := 1) ?hd (cs := #[.string a0_0, .string a0_1, .int .i64 a0_2]) (t := 29) ?hr ?_; (case hd => rfl); (case hg => rfl); (case hr => exact zq3); intro gb265 hg w2 hbox hb; have BK265 := Aside0.mk (hbox); have GW265 := Aside0.mk ((zq4 : w.heap.size ≤ gb265)); have GE265 := Aside0.mk ((zq4 : w.heap.size ≤ gb265)); replace HB := Aside0.mk (below_step (zq5) hb); clear hb hbox hg; have hcz3_0 : w2.cell? ⟨gb265, 0, none⟩ = some (.string a0_0) := (blk_cell BK265.out 0).trans rfl; have hcz3_1 : w2.cell? ⟨gb265, 1, none⟩ = some (.string a0_1) := (blk_cell BK265.out 1).trans rfl; have hcz3_2 : w2.cell? ⟨gb265, 2, none⟩ = some (.int .i64 a0_2) := (blk_cell BK265.out 2).trans rfl; have hfz3_0 := blk_frozen BK265.out 0; have hfz3_1 := blk_frozen BK265.out 1; have hfz3_2 := blk_frozen BK265.out 2))
 go_ret
 exact ⟨zq6, by repeat (first | (with_reducible first | exact HB.out | apply below_alloc | apply pw_below_drewN | apply below_drew1 | refine below_set ?_ GE265.out) | exact HB.out)⟩
end Go.Proofs.YtlmfoblgheepoaaGreatDoor.Pl
end
section
open Go.Proofs.YtlmfoblgheepoaaGreatDoor.Z
namespace Go.Proofs.YtlmfoblgheepoaaGreatDoor.Pl
open Go.RowKit Go.Proofs.YtlmfoblgheepoaaGreatDoorW.PrintWords Go.Proofs.YtlmfoblgheepoaaGreatDoorW.PrintLast Go.Proofs.YtlmfoblgheepoaaGreatDoorW.PrintMore
attribute [local go_sem] max2_int min2_int max_two min_two max_three min_three max_four min_four
set_option linter.unusedVariables false
set_option linter.unusedSimpArgs false
mutual
def dialtoneref12_Range.j0 : Nat → List (S29) → Int → Int → Bool → Option (Int × Int × Int)
 | 0, _, _, _, _ => none
 | k + 1, x0, x1, x2, x29 => if x29 = true then (some (0, 0, 120)) else (if 0 ≤ x1 then (if x1 < (x0.length : Int) then ((dialtoneref12_value.f k ((rd_T29 x0 x1).f1)).bind fun t270 => (dialtoneref12_Range.l0 k x0 x1 x2 t270 1 (((rd_T29 x0 x1).f1).size : Int))) else (none)) else (none))
def dialtoneref12_Range.l0 : Nat → List (S29) → Int → Int → Int → Int → Int → Option (Int × Int × Int)
 | 0, _, _, _, _, _, _ => none
 | k + 1, x0, x1, x2, x8, x9, x10 => if x10 < 8 then (dialtoneref12_Range.l0 k x0 x1 x2 (wrap64 (10 * x8)) (wrap64 (10 * x9)) (wrap64 (x10 + 1))) else (if x2 = 1 then (dialtoneref12_Range.l1 k x0 x1 x8 1 0) else (some (x8, wrap64 (x8 + x9), 0)))
def dialtoneref12_Range.l1 : Nat → List (S29) → Int → Int → Int → Int → Option (Int × Int × Int)
 | 0, _, _, _, _, _ => none
 | k + 1, x0, x1, x8, x9, x11 => if 0 ≤ x1 then (if x1 < (x0.length : Int) then ((dialtoneref12_local.f ((rd_T29 x0 x1).f0) ((rd_T29 x0 x1).f1) ((rd_T29 x0 x1).f2)).bind fun t273 => (if x11 < t273 then (dialtoneref12_Range.l1 k x0 x1 x8 (wrap64 (10 * x9)) (wrap64 (x11 + 1))) else (some (x8, wrap64 (x8 + x9), 0)))) else (none)) else (none)
end
def dialtoneref12_Range.f (k : Nat) (l0 : List (S29)) (a1 : Int) (a2 : Int) : Option (Int × Int × Int) := (dialtoneref12_Valid.f k l0).bind fun t267 => (if t267 = true then (if a1 < 0 then (dialtoneref12_Range.j0 k l0 a1 a2 true) else (if a1 ≥ (l0.length : Int) then (dialtoneref12_Range.j0 k l0 a1 a2 true) else ((dialtoneref12_phase.f a2).bind fun t268 => (dialtoneref12_Range.j0 k l0 a1 a2 (!t268))))) else (dialtoneref12_Range.j0 k l0 a1 a2 true))
set_option maxHeartbeats 8000000 in
set_option maxRecDepth 100000 in
theorem dialtoneref12_Range.calls (k : Nat) (A0 : Option Addr) (c0 : Nat) (l0 : List (S29)) (a1 : Int) (a2 : Int) (r1 : Int) (r2 : Int) (r3 : Int) (w : World) (hr0 : Kd.C k29 w A0 l0.length l0) (hc0 : l0.length ≤ c0) (h : dialtoneref12_Range.f k l0 a1 a2 = some (r1, r2, r3)) :
 Calls Tryz.prog 20 #[.slice A0 l0.length c0, .int .i64 a1, .int .i64 a2] w fun e w' => e = .returned (.tuple #[.agg #[.int .i64 r1, .int .i64 r2], .int .i64 r3]) ∧ Below w.heap.size w w' := by
 have hu40 := Tryz.underlying40
 have hu29 := Tryz.underlying29
 have HR0 := Aside0.mk hr0
 have HC0 := Aside0.mk hc0
 clear hr0 hc0
 have HB := Aside0.mk (Below.refl w.heap.size w)
 have H : ((dialtoneref12_Valid.f k l0).bind fun t267 => (if t267 = true then (if a1 < 0 then (dialtoneref12_Range.j0 k l0 a1 a2 true) else (if a1 ≥ (l0.length : Int) then (dialtoneref12_Range.j0 k l0 a1 a2 true) else ((dialtoneref12_phase.f a2).bind fun t268 => (dialtoneref12_Range.j0 k l0 a1 a2 (!t268))))) else (dialtoneref12_Range.j0 k l0 a1 a2 true))) = some (r1, r2, r3) := h
 clear h
 have HC4 := Aside0.mk H
 clear H
 go_enter Tryz.func20, Tryz.ntmps20
 go_upto_region 1 with (first | ((with_reducible refine gate_dst (N := 6) rfl ?_); (try (refine gate_guard (by rfl) ?_; dsimp only)); refine box_event ?hg (N := 6) ?hd (cs := #[.int .i64 0, .int .i64 0]) (t := 40) ?hr ?_; (case hd => rfl); (case hg => rfl); (case hr => exact zq3); intro gb266 hg w5 hbox hb; have BK266 := Aside0.mk (hbox); have GW266 := Aside0.mk ((zq4 : w.heap.size ≤ gb266)); have GE266 := Aside0.mk ((zq4 : w.heap.size ≤ gb266)); replace HB := Aside0.mk (below_step (zq5) hb); clear hb hbox hg))
 (try simp only [Act.put, List.setIfInBounds_toArray, List.set_cons_zero, List.set_cons_succ])
 go_cut [29] (fun v29 wc => ∃ (kq : Nat) (x29_3 : Bool), v29 = .bool x29_3 ∧ Aside0 (dialtoneref12_Range.j0 kq l0 a1 a2 x29_3 = some (r1, r2, r3)) ∧ Aside0 (kq ≤ k) ∧ Aside0 (wc.heap[gb266]? = some (.cells #[.int .i64 0, .int .i64 0] 40 (0, 0))) ∧ Aside0 (Below w.heap.size w wc))
 case first =>
  have H := HC4.out
  clear HC4
  replace H := Option.bind_eq_some_iff.mp H
  obtain ⟨t267, A60, H⟩ := H
  replace H : (if t267 = true then (if a1 < 0 then (dialtoneref12_Range.j0 k l0 a1 a2 true) else (if a1 ≥ (l0.length : Int) then (dialtoneref12_Range.j0 k l0 a1 a2 true) else ((dialtoneref12_phase.f a2).bind fun t268 => (dialtoneref12_Range.j0 k l0 a1 a2 (!t268))))) else (dialtoneref12_Range.j0 k l0 a1 a2 true)) = some (r1, r2, r3) := H
  have A6 := Aside0.mk A60
  clear A60
  by_cases c7 : t267 = true
  rotate_left
  ·replace c7 := Bool.eq_false_iff.mpr c7
   subst c7
   have H1 : (dialtoneref12_Range.j0 k l0 a1 a2 true) = some (r1, r2, r3) := by rw [if_neg (show ¬ (false = true) by decide)] at H; exact H
   clear H
   have H := H1
   clear H1
   have H' := Aside0.mk H
   clear H
   go_wp2_with (first | ((with_reducible refine gate_callee (f := 26) rfl ?_); refine goesL_ (some 13) rfl rfl Tryz.func26 (by kernel_rfl) rfl #[.slice A0 l0.length c0] rfl (zq7) ?_; (with_reducible refine (dialtoneref12_Valid.calls k _ _ l0 false _ ?side1 ?side2 A6.out).mono ?_); (case side1 => exact zq28); (case side2 => exact zq29); rintro e w14 ⟨rfl, hb⟩; refine ⟨_, rfl, ?_⟩; replace BK266 := Aside0.mk (blk_below (g := gb266) (o := .cells #[.int .i64 0, .int .i64 0] 40 (0, 0)) (zq109) hb); replace HB := Aside0.mk (below_step (zq110) hb); (try clear hb); (try clear hb2); (try clear hk); (try clear hi)))
   go_meet
   case rel => exact ⟨_, (true), (zq1), H', ⟨zq10⟩, ⟨zq109⟩, ⟨zq110⟩⟩
  subst c7
  have H1 : (if a1 < 0 then (dialtoneref12_Range.j0 k l0 a1 a2 true) else (if a1 ≥ (l0.length : Int) then (dialtoneref12_Range.j0 k l0 a1 a2 true) else ((dialtoneref12_phase.f a2).bind fun t268 => (dialtoneref12_Range.j0 k l0 a1 a2 (!t268))))) = some (r1, r2, r3) := by rw [if_pos rfl] at H; exact H
  clear H
  have H := H1
  clear H1
  by_cases c8 : a1 < 0
  ·rw [if_pos c8] at H
   have c8b0 : decide (a1 < 0) = true := decide_eq_true c8
   clear c8
   (first | rw [c8b0] | (simp only [i64_w, i32_w]; rw [c8b0]) | skip)
   have H' := Aside0.mk H
   clear H
   go_wp2_with (first | ((with_reducible refine gate_callee (f := 26) rfl ?_); refine goesL_ (some 13) rfl rfl Tryz.func26 (by kernel_rfl) rfl #[.slice A0 l0.length c0] rfl (zq7) ?_; (with_reducible refine (dialtoneref12_Valid.calls k _ _ l0 true _ ?side1 ?side2 A6.out).mono ?_); (case side1 => exact zq28); (case side2 => exact zq29); rintro e w9 ⟨rfl, hb⟩; refine ⟨_, rfl, ?_⟩; replace BK266 := Aside0.mk (blk_below (g := gb266) (o := .cells #[.int .i64 0, .int .i64 0] 40 (0, 0)) (zq109) hb); replace HB := Aside0.mk (below_step (zq110) hb); (try clear hb); (try clear hb2); (try clear hk); (try clear hi)))
   go_meet
   case rel => exact ⟨_, (true), (zq1), H', ⟨zq10⟩, ⟨zq109⟩, ⟨zq110⟩⟩
  rw [if_neg c8] at H
  have c8b0 : decide (a1 < 0) = false := decide_eq_false c8
  clear c8
  (first | rw [c8b0] | (simp only [i64_w, i32_w]; rw [c8b0]) | skip)
  by_cases c10 : a1 ≥ (l0.length : Int)
  ·rw [if_pos c10] at H
   have c10b0 : decide ((l0.length : Int) ≤ a1) = true := decide_eq_true c10
   clear c10
   have H' := Aside0.mk H
   clear H
   go_wp2_with (first | ((with_reducible refine gate_callee (f := 26) rfl ?_); refine goesL_ (some 13) rfl rfl Tryz.func26 (by kernel_rfl) rfl #[.slice A0 l0.length c0] rfl (zq7) ?_; (with_reducible refine (dialtoneref12_Valid.calls k _ _ l0 true _ ?side1 ?side2 A6.out).mono ?_); (case side1 => exact zq28); (case side2 => exact zq29); rintro e w11 ⟨rfl, hb⟩; refine ⟨_, rfl, ?_⟩; replace BK266 := Aside0.mk (blk_below (g := gb266) (o := .cells #[.int .i64 0, .int .i64 0] 40 (0, 0)) (zq109) hb); replace HB := Aside0.mk (below_step (zq110) hb); (try clear hb); (try clear hb2); (try clear hk); (try clear hi)))
   go_meet
   case rel => exact ⟨_, (true), (zq1), H', ⟨zq10⟩, ⟨zq109⟩, ⟨zq110⟩⟩
  rw [if_neg c10] at H
  have c10b0 : decide ((l0.length : Int) ≤ a1) = false := decide_eq_false c10
  clear c10
  replace H := Option.bind_eq_some_iff.mp H
  obtain ⟨t268, A120, H⟩ := H
  replace H : (dialtoneref12_Range.j0 k l0 a1 a2 (!t268)) = some (r1, r2, r3) := H
  have A12 := Aside0.mk A120
  clear A120
  have H' := Aside0.mk H
  clear H
  go_wp2_with (first | ((with_reducible refine gate_callee (f := 26) rfl ?_); refine goesL_ (some 13) rfl rfl Tryz.func26 (by kernel_rfl) rfl #[.slice A0 l0.length c0] rfl (zq7) ?_; (with_reducible refine (dialtoneref12_Valid.calls k _ _ l0 true _ ?side1 ?side2 A6.out).mono ?_); (case side1 => exact zq28); (case side2 => exact zq29); rintro e w13 ⟨rfl, hb⟩; refine ⟨_, rfl, ?_⟩; replace BK266 := Aside0.mk (blk_below (g := gb266) (o := .cells #[.int .i64 0, .int .i64 0] 40 (0, 0)) (zq109) hb); replace HB := Aside0.mk (below_step (zq110) hb); (try clear hb); (try clear hb2); (try clear hk); (try clear hi)) | (go_at_call 41; (with_reducible refine (dialtoneref12_phase.calls a2 t268 _ A12.out).mono ?_); rintro e w' ⟨rfl, ⟨nd, rfl⟩⟩))
  go_meet
  case rel => exact ⟨_, (!t268), (zq1), H', ⟨zq10⟩, ⟨zq109⟩, ⟨zq110⟩⟩
 case rest =>
  clear HC4
  try clear c1
  try clear c2
  try clear p2
  try clear p6
  try clear c7
  try clear c8
  try clear c8b0
  try clear c10
  try clear c10b0
  obtain ⟨kq, x29_3, rfl, HA, HJ3, BK266, HB⟩ := hcut
  cases kq with
  | zero => exact absurd HA.out (by simp [dialtoneref12_Range.j0])
  | succ kj3 =>
   have H := HA.out
   clear HA
   simp only [dialtoneref12_Range.j0] at H
   by_cases c15 : x29_3 = true
   ·subst c15
    have H1 : (some (0, 0, 120)) = some (r1, r2, r3) := by rw [if_pos rfl] at H; exact H
    clear H
    have H := H1
    clear H1
    simp only [Option.some.injEq, Prod.mk.injEq] at H
    obtain ⟨rfl, rfl, rfl⟩ := H
    have hcz16_0 : wc.cell? ⟨gb266, 0, none⟩ = some (.int .i64 0) := (blk_cell BK266.out 0).trans rfl
    have hcz16_1 : wc.cell? ⟨gb266, 1, none⟩ = some (.int .i64 0) := (blk_cell BK266.out 1).trans rfl
    have hfz16_0 := blk_frozen BK266.out 0
    have hfz16_1 := blk_frozen BK266.out 1
    go_wp2
    refine bodyPost_ret (results_ct rfl _ _ gb266 40 #[.int .i64 0, .int .i64 0] (0, 0) _ rfl (by (with_reducible repeat (first | refine blk_drewN ?_ _ | refine blk_drew ?_ | refine blk_alloc ?_ _)); refine blk_put (cs := #[.int .i64 0, .int .i64 0]) ?_ 1 _ rfl; (with_reducible repeat (first | refine blk_drewN ?_ _ | refine blk_drew ?_ | refine blk_alloc ?_ _)); refine blk_put (cs := #[.int .i64 0, .int .i64 0]) ?_ 0 _ rfl; (with_reducible repeat (first | refine blk_drewN ?_ _ | refine blk_drew ?_ | refine blk_alloc ?_ _)); exact BK266.out) Tryz.underlying40 rfl (by kernel_rfl)) rfl ?_
    exact ⟨zq6, zq110⟩
   replace c15 := Bool.eq_false_iff.mpr c15
   subst c15
   have H1 : (if 0 ≤ a1 then (if a1 < (l0.length : Int) then ((dialtoneref12_value.f kj3 ((rd_T29 l0 a1).f1)).bind fun t270 => (dialtoneref12_Range.l0 kj3 l0 a1 a2 t270 1 (((rd_T29 l0 a1).f1).size : Int))) else (none)) else (none)) = some (r1, r2, r3) := by rw [if_neg (show ¬ (false = true) by decide)] at H; exact H
   clear H
   have H := H1
   clear H1
   by_cases c17 : 0 ≤ a1
   rotate_left
   ·rw [if_neg c17] at H
    exact absurd H (by simp)
   rw [if_pos c17] at H
   have c17b0 : decide (0 ≤ a1) = true := decide_eq_true c17
   clear c17
   by_cases c18 : a1 < (l0.length : Int)
   rotate_left
   ·rw [if_neg c18] at H
    exact absurd H (by simp)
   rw [if_pos c18] at H
   have c18b0 : decide (a1 < (l0.length : Int)) = true := decide_eq_true c18
   clear c18
   replace H := Option.bind_eq_some_iff.mp H
   obtain ⟨t270, A190, H⟩ := H
   replace H : (dialtoneref12_Range.l0 kj3 l0 a1 a2 t270 1 (((rd_T29 l0 a1).f1).size : Int)) = some (r1, r2, r3) := H
   have A19 := Aside0.mk A190
   clear A190
   have H' := Aside0.mk H
   clear H
   have p269 : 0 ≤ (a1 : Int) := of_decide_eq_true (zq18)
   have q269 : a1 < (l0.length : Int) := of_decide_eq_true (zq18)
   obtain ⟨ad269, e269, hx269_0, hx269_1, hx269_2⟩ := at_T29 HR0.out a1 p269 q269
   cases e269
   replace hx269_0 := (HB.out.cell (World.block_lt_of_cell? w _ hx269_0)).trans hx269_0
   replace hx269_1 := (HB.out.cell (World.block_lt_of_cell? w _ hx269_1)).trans hx269_1
   replace hx269_2 := (HB.out.cell (World.block_lt_of_cell? w _ hx269_2)).trans hx269_2
   replace p269 := eq_true p269
   replace q269 := eq_true q269
   go_wp2_with (first | ((with_reducible refine gate_callee (f := 47) rfl ?_); refine goesL_ (some 36) rfl rfl Tryz.func47 (by kernel_rfl) rfl #[.string ((rd_T29 l0 a1).f1)] rfl (zq7) ?_; (with_reducible refine (dialtoneref12_value.calls kj3 ((rd_T29 l0 a1).f1) t270 _ A19.out).mono ?_); rintro e w' ⟨rfl, ⟨nd, rfl⟩⟩; refine ⟨_, rfl, ?_⟩; have p271 : 0 ≤ (a1 : Int) := of_decide_eq_true (zq18); have q271 : a1 < (l0.length : Int) := of_decide_eq_true (zq18); obtain ⟨ad271, e271, hx271_0, hx271_1, hx271_2⟩ := at_T29 HR0.out a1 p271 q271; obtain rfl : ad269 = ad271 := (by injection e271); replace hx271_0 := (HB.out.cell (World.block_lt_of_cell? w _ hx271_0)).trans hx271_0; replace hx271_1 := (HB.out.cell (World.block_lt_of_cell? w _ hx271_1)).trans hx271_1; replace hx271_2 := (HB.out.cell (World.block_lt_of_cell? w _ hx271_2)).trans hx271_2; replace p271 := eq_true p271; replace q271 := eq_true q271))
   go_loopg [8, 9, 10] kj3 (fun kq v8 v9 v10 w' => ∃ (x8_2 : Int) (x9_2 : Int) (x10_2 : Int), v8 = .int .i64 x8_2 ∧ v9 = .int .i64 x9_2 ∧ v10 = .int .i64 x10_2 ∧ Aside0 (dialtoneref12_Range.l0 kq l0 a1 a2 x8_2 x9_2 x10_2 = some (r1, r2, r3)) ∧ Aside0 (kq ≤ kj3) ∧ Aside0 (w'.heap[gb266]? = some (.cells #[.int .i64 0, .int .i64 0] 40 (0, 0))) ∧ Aside0 (Below w.heap.size w w'))
   case atStart => exact ⟨(t270), (1), ((((rd_T29 l0 a1).f1).size : Int)), (zq1), (zq1), (zq1), H', ⟨Nat.le_refl _⟩, ⟨zq109⟩, ⟨zq110⟩⟩
   case round =>
    clear H'
    try clear c1
    try clear c2
    try clear p2
    try clear q2
    try clear hx2
    try clear c4
    try clear p6
    try clear c7
    try clear c8
    try clear c8b0
    try clear c10
    try clear c10b0
    try clear c15
    try clear c17
    try clear c17b0
    try clear c18
    try clear c18b0
    try clear hcz16_0
    try clear hcz16_1
    try clear hfz16_0
    try clear hfz16_1
    try clear hx269_0
    try clear hx269_1
    try clear hx269_2
    try clear hx271_0
    try clear hx271_1
    try clear hx271_2
    try clear p2
    try clear p269
    try clear p271
    try clear p6
    try clear q269
    try clear q271
    obtain ⟨x8_2, x9_2, x10_2, rfl, rfl, rfl, HA, HK2, BK266, HB⟩ := hrel
    cases gk with
    | zero => exact absurd HA.out (by simp [dialtoneref12_Range.l0])
    | succ k2 =>
     have H := HA.out
     clear HA
     simp only [dialtoneref12_Range.l0] at H
     by_cases c20 : x10_2 < 8
     ·rw [if_pos c20] at H
      have c20b0 : decide (x10_2 < 8) = true := decide_eq_true c20
      clear c20
      have H' := Aside0.mk H
      clear H
      go_wp2
      go_roundg k2
      case measure => have := HJ3.out; have := HK2.out; omega
      case rel => exact ⟨(wrap64 (10 * x8_2)), (wrap64 (10 * x9_2)), (wrap64 (x10_2 + 1)), (zq1), (zq1), (zq1), H', ⟨by have := HJ3.out; have := HK2.out; omega⟩, ⟨zq109⟩, ⟨zq110⟩⟩
     rw [if_neg c20] at H
     have c20b0 : decide (x10_2 < 8) = false := decide_eq_false c20
     clear c20
     by_cases c21 : a2 = 1
     rotate_left
     ·rw [if_neg c21] at H
      have c21b0 : (a2 == 1) = false := beq_eq_false_iff_ne.mpr c21
      have c21b1 : (a2 != 1) = true := bne_iff_ne.mpr c21
      simp only [Option.some.injEq, Prod.mk.injEq] at H
      obtain ⟨rfl, rfl, rfl⟩ := H
      have hcz29_0 : wr.cell? ⟨gb266, 0, none⟩ = some (.int .i64 0) := (blk_cell BK266.out 0).trans rfl
      have hcz29_1 : wr.cell? ⟨gb266, 1, none⟩ = some (.int .i64 0) := (blk_cell BK266.out 1).trans rfl
      have hfz29_0 := blk_frozen BK266.out 0
      have hfz29_1 := blk_frozen BK266.out 1
      go_wp2
      refine bodyPost_ret (results_ct rfl _ _ gb266 40 #[.int .i64 x8_2, .int .i64 (wrap64 (x8_2 + x9_2))] (0, 0) _ rfl (zq111) Tryz.underlying40 rfl (by kernel_rfl)) rfl ?_
      exact ⟨zq6, zq110⟩
     rw [if_pos c21] at H
     have c21b0 : (a2 == 1) = true := beq_iff_eq.mpr c21
     have c21b1 : (a2 != 1) = false := bne_eq_false_iff_eq.mpr c21
     clear c21
     have H' := Aside0.mk H
     clear H
     go_wp2
     go_loopg [9, 11] k2 (fun kq v9 v11 w' => ∃ (x9_3 : Int) (x11_3 : Int), v9 = .int .i64 x9_3 ∧ v11 = .int .i64 x11_3 ∧ Aside0 (dialtoneref12_Range.l1 kq l0 a1 x8_2 x9_3 x11_3 = some (r1, r2, r3)) ∧ Aside0 (kq ≤ k2) ∧ Aside0 (w'.heap[gb266]? = some (.cells #[.int .i64 0, .int .i64 0] 40 (0, 0))) ∧ Aside0 (Below w.heap.size w w'))
     case atStart => exact ⟨(1), (0), (zq1), (zq1), H', ⟨Nat.le_refl _⟩, ⟨zq109⟩, ⟨zq110⟩⟩
     case round =>
      clear H'
      try clear c1
      try clear c2
      try clear p2
      try clear q2
      try clear hx2
      try clear c4
      try clear p6
      try clear c7
      try clear c8
      try clear c8b0
      try clear c10
      try clear c10b0
      try clear c15
      try clear c17
      try clear c17b0
      try clear c18
      try clear c18b0
      try clear c20
      try clear c20b0
      try clear c21
      try clear c21b0
      try clear c21b1
      try clear hcz16_0
      try clear hcz16_1
      try clear hfz16_0
      try clear hfz16_1
      try clear hx269_0
      try clear hx269_1
      try clear hx269_2
      try clear hx271_0
      try clear hx271_1
      try clear hx271_2
      try clear p2
      try clear p269
      try clear p271
      try clear p6
      try clear q2
      try clear q269
      try clear q271
      obtain ⟨x9_3, x11_3, rfl, rfl, HA, HK3, BK266, HB⟩ := hrel
      cases gk with
      | zero => exact absurd HA.out (by simp [dialtoneref12_Range.l1])
      | succ k3 =>
       have H := HA.out
       clear HA
       simp only [dialtoneref12_Range.l1] at H
       by_cases c22 : 0 ≤ a1
       rotate_left
       ·rw [if_neg c22] at H
        exact absurd H (by simp)
       rw [if_pos c22] at H
       have c22b0 : decide (0 ≤ a1) = true := decide_eq_true c22
       clear c22
       by_cases c23 : a1 < (l0.length : Int)
       rotate_left
       ·rw [if_neg c23] at H
        exact absurd H (by simp)
       rw [if_pos c23] at H
       have c23b0 : decide (a1 < (l0.length : Int)) = true := decide_eq_true c23
       clear c23
       replace H := Option.bind_eq_some_iff.mp H
       obtain ⟨t273, A240, H⟩ := H
       replace H : (if x11_3 < t273 then (dialtoneref12_Range.l1 k3 l0 a1 x8_2 (wrap64 (10 * x9_3)) (wrap64 (x11_3 + 1))) else (some (x8_2, wrap64 (x8_2 + x9_3), 0))) = some (r1, r2, r3) := H
       have A24 := Aside0.mk A240
       clear A240
       by_cases c25 : x11_3 < t273
       ·rw [if_pos c25] at H
        have c25b0 : decide (x11_3 < t273) = true := decide_eq_true c25
        clear c25
        have H' := Aside0.mk H
        clear H
        have p272 : 0 ≤ (a1 : Int) := of_decide_eq_true (zq18)
        have q272 : a1 < (l0.length : Int) := of_decide_eq_true (zq18)
        obtain ⟨ad272, e272, hx272_0, hx272_1, hx272_2⟩ := at_T29 HR0.out a1 p272 q272
        obtain rfl : ad269 = ad272 := (by injection e272)
        replace hx272_0 := (HB.out.cell (World.block_lt_of_cell? w _ hx272_0)).trans hx272_0
        replace hx272_1 := (HB.out.cell (World.block_lt_of_cell? w _ hx272_1)).trans hx272_1
        replace hx272_2 := (HB.out.cell (World.block_lt_of_cell? w _ hx272_2)).trans hx272_2
        replace p272 := eq_true p272
        replace q272 := eq_true q272
        go_wp2_with (first | ((with_reducible refine gate_callee (f := 48) rfl ?_); refine goesL_ (some 58) rfl rfl Tryz.func48 (by kernel_rfl) rfl #[.agg #[.string ((rd_T29 l0 a1).f0), .string ((rd_T29 l0 a1).f1), .int .i64 ((rd_T29 l0 a1).f2)]] rfl (zq7) ?_; (with_reducible refine (dialtoneref12_local.calls ((rd_T29 l0 a1).f0) ((rd_T29 l0 a1).f1) ((rd_T29 l0 a1).f2) t273 _ A24.out).mono ?_); rintro e w26 ⟨rfl, hb⟩; refine ⟨_, rfl, ?_⟩; replace BK266 := Aside0.mk (blk_below (g := gb266) (o := .cells #[.int .i64 0, .int .i64 0] 40 (0, 0)) (zq109) hb); replace HB := Aside0.mk (below_step (zq110) hb); (try clear hb); (try clear hb2); (try clear hk); (try clear hi)))
        go_roundg k3
        case measure => have := HJ3.out; have := HK2.out; have := HK3.out; omega
        case rel => exact ⟨(wrap64 (10 * x9_3)), (wrap64 (x11_3 + 1)), (zq1), (zq1), H', ⟨by have := HJ3.out; have := HK2.out; have := HK3.out; omega⟩, ⟨zq109⟩, ⟨zq110⟩⟩
       rw [if_neg c25] at H
       have c25b0 : decide (x11_3 < t273) = false := decide_eq_false c25
       clear c25
       simp only [Option.some.injEq, Prod.mk.injEq] at H
       obtain ⟨rfl, rfl, rfl⟩ := H
       have p272 : 0 ≤ (a1 : Int) := of_decide_eq_true (zq18)
       have q272 : a1 < (l0.length : Int) := of_decide_eq_true (zq18)
       obtain ⟨ad272, e272, hx272_0, hx272_1, hx272_2⟩ := at_T29 HR0.out a1 p272 q272
       obtain rfl : ad269 = ad272 := (by injection e272)
       replace hx272_0 := (HB.out.cell (World.block_lt_of_cell? w _ hx272_0)).trans hx272_0
       replace hx272_1 := (HB.out.cell (World.block_lt_of_cell? w _ hx272_1)).trans hx272_1
       replace hx272_2 := (HB.out.cell (World.block_lt_of_cell? w _ hx272_2)).trans hx272_2
       replace p272 := eq_true p272
       replace q272 := eq_true q272
       go_wp2_with (first | ((with_reducible refine gate_callee (f := 48) rfl ?_); refine goesL_ (some 58) rfl rfl Tryz.func48 (by kernel_rfl) rfl #[.agg #[.string ((rd_T29 l0 a1).f0), .string ((rd_T29 l0 a1).f1), .int .i64 ((rd_T29 l0 a1).f2)]] rfl (zq7) ?_; (with_reducible refine (dialtoneref12_local.calls ((rd_T29 l0 a1).f0) ((rd_T29 l0 a1).f1) ((rd_T29 l0 a1).f2) t273 _ A24.out).mono ?_); rintro e w27 ⟨rfl, hb⟩; refine ⟨_, rfl, ?_⟩; replace BK266 := Aside0.mk (blk_below (g := gb266) (o := .cells #[.int .i64 0, .int .i64 0] 40 (0, 0)) (zq109) hb); replace HB := Aside0.mk (below_step (zq110) hb); (try clear hb); (try clear hb2); (try clear hk); (try clear hi); have hcz28_0 : w27.cell? ⟨gb266, 0, none⟩ = some (.int .i64 0) := (blk_cell BK266.out 0).trans rfl; have hcz28_1 : w27.cell? ⟨gb266, 1, none⟩ = some (.int .i64 0) := (blk_cell BK266.out 1).trans rfl; have hfz28_0 := blk_frozen BK266.out 0; have hfz28_1 := blk_frozen BK266.out 1))
       refine bodyPost_ret (results_ct rfl _ _ gb266 40 #[.int .i64 x8_2, .int .i64 (wrap64 (x8_2 + x9_3))] (0, 0) _ rfl (zq111) Tryz.underlying40 rfl (by kernel_rfl)) rfl ?_
       exact ⟨zq6, zq110⟩
def dialtoneref12_Number.j0 : Nat → List (S29) → Int → Int → Bool → Option (Int)
 | 0, _, _, _, _ => none
 | k + 1, x0, x1, x2, x16 => if x16 = true then ((dialtoneref12_pick.f x2 100000000).bind fun t275 => (some t275)) else ((dialtoneref12_pick.f (wrap64 (Int.tdiv x1 16)) (x0.length : Int)).bind fun t276 => ((dialtoneref12_pick.f x1 3).bind fun t277 => ((dialtoneref12_Range.f k x0 t276 (wrap64 (1 + t277))).bind fun bt278 => ((dialtoneref12_pick.f x2 (wrap64 (bt278.2.1 - bt278.1))).bind fun t282 => (some (wrap64 (bt278.1 + t282)))))))
def dialtoneref12_Number.f (k : Nat) (l0 : List (S29)) (a1 : Int) (a2 : Int) : Option (Int) := if (l0.length : Int) = 0 then (dialtoneref12_Number.j0 k l0 a1 a2 true) else ((dialtoneref12_pick.f a1 16).bind fun t274 => (dialtoneref12_Number.j0 k l0 a1 a2 (t274 == 15)))
set_option maxHeartbeats 8000000 in
set_option maxRecDepth 100000 in
theorem dialtoneref12_Number.calls (k : Nat) (A0 : Option Addr) (c0 : Nat) (l0 : List (S29)) (a1 : Int) (a2 : Int) (r : Int) (w : World) (hr0 : Kd.C k29 w A0 l0.length l0) (hc0 : l0.length ≤ c0) (h : dialtoneref12_Number.f k l0 a1 a2 = some r) :
 Calls Tryz.prog 13 #[.slice A0 l0.length c0, .int .i64 a1, .int .i64 a2] w fun e w' => e = .returned (.int .i64 r) ∧ Below w.heap.size w w' := by
 have hu40 := Tryz.underlying40
 have HR0 := Aside0.mk hr0
 have HC0 := Aside0.mk hc0
 clear hr0 hc0
 have HB := Aside0.mk (Below.refl w.heap.size w)
 have H : (if (l0.length : Int) = 0 then (dialtoneref12_Number.j0 k l0 a1 a2 true) else ((dialtoneref12_pick.f a1 16).bind fun t274 => (dialtoneref12_Number.j0 k l0 a1 a2 (t274 == 15)))) = some r := h
 clear h
 have HC4 := Aside0.mk H
 clear H
 go_enter Tryz.func13, Tryz.ntmps13
 go_upto_region 1 with (fail)
 repeat (go_quiet (fail); go_upto_region 1 with (fail))
 go_cut [16] (fun v16 wc => ∃ (kq : Nat) (x16_3 : Bool), v16 = .bool x16_3 ∧ Aside0 (dialtoneref12_Number.j0 kq l0 a1 a2 x16_3 = some r) ∧ Aside0 (kq ≤ k) ∧ Aside0 (Below w.heap.size w wc))
 case first =>
  have H := HC4.out
  clear HC4
  by_cases c5 : (l0.length : Int) = 0
  ·rw [if_pos c5] at H
   have c5b0 : ((l0.length : Int) == 0) = true := beq_iff_eq.mpr c5
   have c5b1 : ((l0.length : Int) != 0) = false := bne_eq_false_iff_eq.mpr c5
   clear c5
   (first | rw [c5b0] | (simp only [i64_w, i32_w]; rw [c5b0]) | skip)
   have H' := Aside0.mk H
   clear H
   go_wp2
   repeat (go_quiet (fail); try go_wp2)
   go_meet
   case rel => exact ⟨_, (true), (zq1), H', ⟨zq10⟩, ⟨zq5⟩⟩
  rw [if_neg c5] at H
  have c5b0 : ((l0.length : Int) == 0) = false := beq_eq_false_iff_ne.mpr c5
  have c5b1 : ((l0.length : Int) != 0) = true := bne_iff_ne.mpr c5
  have c5b2 : ¬ (l0 = []) := fun h_ => c5 (by rw [h_]; rfl)
  (first | rw [c5b0] | (simp only [i64_w, i32_w]; rw [c5b0]) | skip)
  replace H := Option.bind_eq_some_iff.mp H
  obtain ⟨t274, A60, H⟩ := H
  try dsimp only at H
  have A6 := Aside0.mk A60
  clear A60
  have H' := Aside0.mk H
  clear H
  go_wp2_with (first | (go_at_call 33; (with_reducible refine (dialtoneref12_pick.calls a1 16 t274 _ A6.out).mono ?_); rintro e w' ⟨rfl, ⟨nd, rfl⟩⟩; (try first | exact ⟨rfl, _, World.drewN_drewN _ _ _⟩ | exact ⟨rfl, _, Eq.trans (World.drewN_drewN _ _ _) (congrArg (World.drewN _) (Nat.add_assoc _ _ _))⟩)))
  repeat (go_quiet (first | (go_at_call 33; (with_reducible refine (dialtoneref12_pick.calls a1 16 t274 _ A6.out).mono ?_); rintro e w' ⟨rfl, ⟨nd, rfl⟩⟩; (try first | exact ⟨rfl, _, World.drewN_drewN _ _ _⟩ | exact ⟨rfl, _, Eq.trans (World.drewN_drewN _ _ _) (congrArg (World.drewN _) (Nat.add_assoc _ _ _))⟩))); try go_wp2_with (first | (go_at_call 33; (with_reducible refine (dialtoneref12_pick.calls a1 16 t274 _ A6.out).mono ?_); rintro e w' ⟨rfl, ⟨nd, rfl⟩⟩; (try first | exact ⟨rfl, _, World.drewN_drewN _ _ _⟩ | exact ⟨rfl, _, Eq.trans (World.drewN_drewN _ _ _) (congrArg (World.drewN _) (Nat.add_assoc _ _ _))⟩))))
  go_meet
  case rel => exact ⟨_, ((t274 == 15)), (zq1), H', ⟨zq10⟩, ⟨zq5⟩⟩
 case rest =>
  clear HC4
  try clear c1
  try clear p2
  try clear c5
  try clear c5b0
  try clear c5b1
  try clear c5b2
  obtain ⟨kq, x16_3, rfl, HA, HJ3, HB⟩ := hcut
  cases kq with
  | zero => exact absurd HA.out (by simp [dialtoneref12_Number.j0])
  | succ kj3 =>
   have H := HA.out
   clear HA
   simp only [dialtoneref12_Number.j0] at H
   by_cases c7 : x16_3 = true
   ·subst c7
    rw [if_pos rfl] at H
    replace H := Option.bind_eq_some_iff.mp H
    obtain ⟨t275, A80, H⟩ := H
    try dsimp only at H
    have A8 := Aside0.mk A80
    clear A80
    obtain rfl := Option.some.inj H
    go_wp2_with (first | (go_at_call 33; (with_reducible refine (dialtoneref12_pick.calls a2 100000000 t275 _ A8.out).mono ?_); rintro e w' ⟨rfl, ⟨nd, rfl⟩⟩; (try first | exact ⟨rfl, _, World.drewN_drewN _ _ _⟩ | exact ⟨rfl, _, Eq.trans (World.drewN_drewN _ _ _) (congrArg (World.drewN _) (Nat.add_assoc _ _ _))⟩)))
    repeat (go_quiet (first | (go_at_call 33; (with_reducible refine (dialtoneref12_pick.calls a2 100000000 t275 _ A8.out).mono ?_); rintro e w' ⟨rfl, ⟨nd, rfl⟩⟩; (try first | exact ⟨rfl, _, World.drewN_drewN _ _ _⟩ | exact ⟨rfl, _, Eq.trans (World.drewN_drewN _ _ _) (congrArg (World.drewN _) (Nat.add_assoc _ _ _))⟩))); try go_wp2_with (first | (go_at_call 33; (with_reducible refine (dialtoneref12_pick.calls a2 100000000 t275 _ A8.out).mono ?_); rintro e w' ⟨rfl, ⟨nd, rfl⟩⟩; (try first | exact ⟨rfl, _, World.drewN_drewN _ _ _⟩ | exact ⟨rfl, _, Eq.trans (World.drewN_drewN _ _ _) (congrArg (World.drewN _) (Nat.add_assoc _ _ _))⟩))))
    go_ret
    exact ⟨zq6, zq5⟩
   replace c7 := Bool.eq_false_iff.mpr c7
   subst c7
   rw [if_neg (show ¬ (false = true) by decide)] at H
   replace H := Option.bind_eq_some_iff.mp H
   obtain ⟨t276, A90, H⟩ := H
   try dsimp only at H
   have A9 := Aside0.mk A90
   clear A90
   replace H := Option.bind_eq_some_iff.mp H
   obtain ⟨t277, A100, H⟩ := H
   try dsimp only at H
   have A10 := Aside0.mk A100
   clear A100
   replace H := Option.bind_eq_some_iff.mp H
   obtain ⟨⟨t278, t279, t280⟩, A110, H⟩ := H
   try dsimp only at H
   have A11 := Aside0.mk A110
   clear A110
   replace H := Option.bind_eq_some_iff.mp H
   obtain ⟨t282, A120, H⟩ := H
   try dsimp only at H
   have A12 := Aside0.mk A120
   clear A120
   obtain rfl := Option.some.inj H
   go_wp2_with (first | (go_at_call 33; (with_reducible refine (dialtoneref12_pick.calls (wrap64 (Int.tdiv a1 16)) (l0.length : Int) t276 _ A9.out).mono ?_); rintro e w' ⟨rfl, ⟨nd, rfl⟩⟩; (try first | exact ⟨rfl, _, World.drewN_drewN _ _ _⟩ | exact ⟨rfl, _, Eq.trans (World.drewN_drewN _ _ _) (congrArg (World.drewN _) (Nat.add_assoc _ _ _))⟩)) | (go_at_call 33; (with_reducible refine (dialtoneref12_pick.calls a1 3 t277 _ A10.out).mono ?_); rintro e w' ⟨rfl, ⟨nd, rfl⟩⟩; (try first | exact ⟨rfl, _, World.drewN_drewN _ _ _⟩ | exact ⟨rfl, _, Eq.trans (World.drewN_drewN _ _ _) (congrArg (World.drewN _) (Nat.add_assoc _ _ _))⟩)) | (go_at_call 20; (with_reducible refine (dialtoneref12_Range.calls kj3 _ _ l0 t276 (wrap64 (1 + t277)) t278 t279 t280 _ ?side1 ?side2 A11.out).mono ?_); (case side1 => exact zq112); (case side2 => exact zq29); rintro e w13 ⟨rfl, hb⟩; replace HB := Aside0.mk (below_step (zq5) hb); (try clear hb); (try clear hb2); (try clear hk); (try clear hi)) | ((with_reducible refine gate_dst (N := 7) rfl ?_); refine box_event ?hg (N := 7) ?hd (cs := #[.int .i64 0, .int .i64 0]) (t := 40) ?hr ?_; (case hd => rfl); (case hg => rfl); (case hr => exact zq3); intro gb281 hg w14 hbox hb; have BK281 := Aside0.mk (hbox); have GW281 := Aside0.mk ((zq4 : w.heap.size ≤ gb281)); have GE281 := Aside0.mk ((zq4 : w.heap.size ≤ gb281)); replace HB := Aside0.mk (below_step (zq5) hb); clear hb hbox hg; have hcz15_0 : w14.cell? ⟨gb281, 0, none⟩ = some (.int .i64 0) := (blk_cell BK281.out 0).trans rfl; have hcz15_1 : w14.cell? ⟨gb281, 1, none⟩ = some (.int .i64 0) := (blk_cell BK281.out 1).trans rfl; have hfz15_0 := blk_frozen BK281.out 0; have hfz15_1 := blk_frozen BK281.out 1) | (go_at_call 33; (with_reducible refine (dialtoneref12_pick.calls a2 (wrap64 (t279 - t278)) t282 _ A12.out).mono ?_); rintro e w' ⟨rfl, ⟨nd, rfl⟩⟩; (try first | exact ⟨rfl, _, World.drewN_drewN _ _ _⟩ | exact ⟨rfl, _, Eq.trans (World.drewN_drewN _ _ _) (congrArg (World.drewN _) (Nat.add_assoc _ _ _))⟩)))
   repeat (go_quiet (first | (go_at_call 33; (with_reducible refine (dialtoneref12_pick.calls (wrap64 (Int.tdiv a1 16)) (l0.length : Int) t276 _ A9.out).mono ?_); rintro e w' ⟨rfl, ⟨nd, rfl⟩⟩; (try first | exact ⟨rfl, _, World.drewN_drewN _ _ _⟩ | exact ⟨rfl, _, Eq.trans (World.drewN_drewN _ _ _) (congrArg (World.drewN _) (Nat.add_assoc _ _ _))⟩)) | (go_at_call 33; (with_reducible refine (dialtoneref12_pick.calls a1 3 t277 _ A10.out).mono ?_); rintro e w' ⟨rfl, ⟨nd, rfl⟩⟩; (try first | exact ⟨rfl, _, World.drewN_drewN _ _ _⟩ | exact ⟨rfl, _, Eq.trans (World.drewN_drewN _ _ _) (congrArg (World.drewN _) (Nat.add_assoc _ _ _))⟩)) | (go_at_call 20; (with_reducible refine (dialtoneref12_Range.calls kj3 _ _ l0 t276 (wrap64 (1 + t277)) t278 t279 t280 _ ?side1 ?side2 A11.out).mono ?_); (case side1 => exact zq112); (case side2 => exact zq29); rintro e w13 ⟨rfl, hb⟩; replace HB := Aside0.mk (below_step (zq5) hb); (try clear hb); (try clear hb2); (try clear hk); (try clear hi)) | ((with_reducible refine gate_dst (N := 7) rfl ?_); refine box_event ?hg (N := 7) ?hd (cs := #[.int .i64 0, .int .i64 0]) (t := 40) ?hr ?_; (case hd => rfl); (case hg => rfl); (case hr => exact zq3); intro gb281 hg w14 hbox hb; have BK281 := Aside0.mk (hbox); have GW281 := Aside0.mk ((zq4 : w.heap.size ≤ gb281)); have GE281 := Aside0.mk ((zq4 : w.heap.size ≤ gb281)); replace HB := Aside0.mk (below_step (zq5) hb); clear hb hbox hg; have hcz15_0 : w14.cell? ⟨gb281, 0, none⟩ = some (.int .i64 0) := (blk_cell BK281.out 0).trans rfl; have hcz15_1 : w14.cell? ⟨gb281, 1, none⟩ = some (.int .i64 0) := (blk_cell BK281.out 1).trans rfl; have hfz15_0 := blk_frozen BK281.out 0; have hfz15_1 := blk_frozen BK281.out 1) | (go_at_call 33; (with_reducible refine (dialtoneref12_pick.calls a2 (wrap64 (t279 - t278)) t282 _ A12.out).mono ?_); rintro e w' ⟨rfl, ⟨nd, rfl⟩⟩; (try first | exact ⟨rfl, _, World.drewN_drewN _ _ _⟩ | exact ⟨rfl, _, Eq.trans (World.drewN_drewN _ _ _) (congrArg (World.drewN _) (Nat.add_assoc _ _ _))⟩))); try go_wp2_with (first | (go_at_call 33; (with_reducible refine (dialtoneref12_pick.calls (wrap64 (Int.tdiv a1 16)) (l0.length : Int) t276 _ A9.out).mono ?_); rintro e w' ⟨rfl, ⟨nd, rfl⟩⟩; (try first | exact ⟨rfl, _, World.drewN_drewN _ _ _⟩ | exact ⟨rfl, _, Eq.trans (World.drewN_drewN _ _ _) (congrArg (World.drewN _) (Nat.add_assoc _ _ _))⟩)) | (go_at_call 33; (with_reducible refine (dialtoneref12_pick.calls a1 3 t277 _ A10.out).mono ?_); rintro e w' ⟨rfl, ⟨nd, rfl⟩⟩; (try first | exact ⟨rfl, _, World.drewN_drewN _ _ _⟩ | exact ⟨rfl, _, Eq.trans (World.drewN_drewN _ _ _) (congrArg (World.drewN _) (Nat.add_assoc _ _ _))⟩)) | (go_at_call 20; (with_reducible refine (dialtoneref12_Range.calls kj3 _ _ l0 t276 (wrap64 (1 + t277)) t278 t279 t280 _ ?side1 ?side2 A11.out).mono ?_); (case side1 => exact zq112); (case side2 => exact zq29); rintro e w13 ⟨rfl, hb⟩; replace HB := Aside0.mk (below_step (zq5) hb); (try clear hb); (try clear hb2); (try clear hk); (try clear hi)) | ((with_reducible refine gate_dst (N := 7) rfl ?_); refine box_event ?hg (N := 7) ?hd (cs := #[.int .i64 0, .int .i64 0]) (t := 40) ?hr ?_; (case hd => rfl); (case hg => rfl); (case hr => exact zq3); intro gb281 hg w14 hbox hb; have BK281 := Aside0.mk (hbox); have GW281 := Aside0.mk ((zq4 : w.heap.size ≤ gb281)); have GE281 := Aside0.mk ((zq4 : w.heap.size ≤ gb281)); replace HB := Aside0.mk (below_step (zq5) hb); clear hb hbox hg; have hcz15_0 : w14.cell? ⟨gb281, 0, none⟩ = some (.int .i64 0) := (blk_cell BK281.out 0).trans rfl; have hcz15_1 : w14.cell? ⟨gb281, 1, none⟩ = some (.int .i64 0) := (blk_cell BK281.out 1).trans rfl; have hfz15_0 := blk_frozen BK281.out 0; have hfz15_1 := blk_frozen BK281.out 1) | (go_at_call 33; (with_reducible refine (dialtoneref12_pick.calls a2 (wrap64 (t279 - t278)) t282 _ A12.out).mono ?_); rintro e w' ⟨rfl, ⟨nd, rfl⟩⟩; (try first | exact ⟨rfl, _, World.drewN_drewN _ _ _⟩ | exact ⟨rfl, _, Eq.trans (World.drewN_drewN _ _ _) (congrArg (World.drewN _) (Nat.add_assoc _ _ _))⟩))))
   go_ret
   exact ⟨zq6, by repeat (first | (with_reducible first | exact HB.out | apply below_alloc | apply pw_below_drewN | apply below_drew1 | refine below_set ?_ GE281.out) | exact HB.out)⟩
end Go.Proofs.YtlmfoblgheepoaaGreatDoor.Pl
end
section
open Go.Proofs.YtlmfoblgheepoaaGreatDoor.Z
namespace Go.Proofs.YtlmfoblgheepoaaGreatDoor.Pl
open Go.RowKit Go.Proofs.YtlmfoblgheepoaaGreatDoorW.PrintWords Go.Proofs.YtlmfoblgheepoaaGreatDoorW.PrintLast Go.Proofs.YtlmfoblgheepoaaGreatDoorW.PrintMore
attribute [local go_sem] max2_int min2_int max_two min_two max_three min_three max_four min_four
set_option linter.unusedVariables false
set_option linter.unusedSimpArgs false
def dialtoneref12_Bent.f (k : Nat) (l0 : List (S29)) (a1 : Int) (a2 : Int) (a3 : Int) : Option ((List (S29))) := (some (([] : List (S29)) : List (S29))).bind fun y283 => (if y283.length + l0.length < 3518437208883 then ((some (y283 ++ l0 : List (S29))).bind fun y286 => (if (y286.length : Int) = 0 then (if y286.length < 3518437208883 then (some (y286 ++ [(⟨(⟨#[]⟩ : ByteArray), (⟨#[]⟩ : ByteArray), a2⟩ : S29)])) else (none)) else ((dialtoneref12_pick.f a3 (y286.length : Int)).bind fun t292 => (if 0 ≤ t292 then (if t292 < (y286.length : Int) then ((dialtoneref12_pick.f a1 6).bind fun t293 => (if t293 = 0 then (some (y286.set (t292 : Int).toNat (⟨(rd_T29 y286 t292).f0, (rd_T29 y286 t292).f1, a2⟩ : S29))) else (if t293 = 1 then ((dialtoneref12_pick.f a2 1000).bind fun t296 => ((dialtoneref12_prefix.f k t296 3).bind fun t297 => (if ((rd_T29 y286 t292).f0).size + t297.size ≤ 9223372036854775807 then (some (y286.set (t292 : Int).toNat (⟨((rd_T29 y286 t292).f0) ++ t297, (rd_T29 y286 t292).f1, (rd_T29 y286 t292).f2⟩ : S29))) else (none)))) else (if t293 = 2 then (if ((rd_T29 y286 t292).f1).size + 1 ≤ 9223372036854775807 then (some (y286.set (t292 : Int).toNat (⟨(rd_T29 y286 t292).f0, ((rd_T29 y286 t292).f1) ++ (⟨#[120]⟩ : ByteArray), (rd_T29 y286 t292).f2⟩ : S29))) else (none)) else (if t293 = 3 then (some (y286.set (t292 : Int).toNat (⟨(rd_T29 y286 t292).f0, (rd_T29 y286 t292).f0, (rd_T29 y286 t292).f2⟩ : S29))) else (if t293 = 4 then (some (y286.set (t292 : Int).toNat (⟨(⟨#[]⟩ : ByteArray), (rd_T29 y286 t292).f1, (rd_T29 y286 t292).f2⟩ : S29))) else (if 0 < (y286.length : Int) then (if y286.length < 3518437208883 then (some (y286 ++ [(⟨(rd_T29 y286 0).f0, (rd_T29 y286 0).f1, (rd_T29 y286 0).f2⟩ : S29)])) else (none)) else (none)))))))) else (none)) else (none))))) else (none))
def dialtoneref12_Bent.T10 : Bool × List (List Nat × List Nat) := (true, [([], []), ([], []), ([1], [1]), ([2], [2]), ([3], [3]), ([], []), ([5], [5]), ([6, 6], [6]), ([4, 7], [4, 7]), ([0, 0, 1, 2, 3, 4, 5, 6, 7, 8], [0]), ([9, 0, 1, 2, 3, 4, 5, 6, 7, 8], [9]), ([10, 8, 7, 0, 1, 2, 3, 4, 5, 6, 7, 8], [8, 10])])
def dialtoneref12_Bent.B10 : List Nat := [0, 0, 2, 6, 14, 0, 32, 96, 254, 511, 1023, 2047]
theorem dialtoneref12_Bent.tab10 : rtab .any (opsOf Tryz.f14 10) = dialtoneref12_Bent.T10 := by kernel_rfl
theorem dialtoneref12_Bent.bits10 : waitsOk dialtoneref12_Bent.T10.2 dialtoneref12_Bent.B10 = true := by kernel_rfl
set_option maxHeartbeats 8000000 in
set_option maxRecDepth 100000 in
theorem dialtoneref12_Bent.calls (k : Nat) (A0 : Option Addr) (c0 : Nat) (l0 : List (S29)) (a1 : Int) (a2 : Int) (a3 : Int) (r : List (S29)) (w : World) (hr0 : Kd.C k29 w A0 l0.length l0) (hc0 : l0.length ≤ c0) (h : dialtoneref12_Bent.f k l0 a1 a2 a3 = some r) :
 Calls Tryz.prog 14 #[.slice A0 l0.length c0, .int .i64 a1, .int .i64 a2, .int .i64 a3] w fun e w' => ∃ v0_ : Value, e = .returned (v0_) ∧ Kd.R k29 29 w' w.heap.size (fun _ => True) v0_ r ∧ Below w.heap.size w w' := by
 have hu29 := Tryz.underlying29
 have HR0 := Aside0.mk hr0
 have HC0 := Aside0.mk hc0
 clear hr0 hc0
 have HB := Aside0.mk (Below.refl w.heap.size w)
 have H : ((some (([] : List (S29)) : List (S29))).bind fun y283 => (if y283.length + l0.length < 3518437208883 then ((some (y283 ++ l0 : List (S29))).bind fun y286 => (if (y286.length : Int) = 0 then (if y286.length < 3518437208883 then (some (y286 ++ [(⟨(⟨#[]⟩ : ByteArray), (⟨#[]⟩ : ByteArray), a2⟩ : S29)])) else (none)) else ((dialtoneref12_pick.f a3 (y286.length : Int)).bind fun t292 => (if 0 ≤ t292 then (if t292 < (y286.length : Int) then ((dialtoneref12_pick.f a1 6).bind fun t293 => (if t293 = 0 then (some (y286.set (t292 : Int).toNat (⟨(rd_T29 y286 t292).f0, (rd_T29 y286 t292).f1, a2⟩ : S29))) else (if t293 = 1 then ((dialtoneref12_pick.f a2 1000).bind fun t296 => ((dialtoneref12_prefix.f k t296 3).bind fun t297 => (if ((rd_T29 y286 t292).f0).size + t297.size ≤ 9223372036854775807 then (some (y286.set (t292 : Int).toNat (⟨((rd_T29 y286 t292).f0) ++ t297, (rd_T29 y286 t292).f1, (rd_T29 y286 t292).f2⟩ : S29))) else (none)))) else (if t293 = 2 then (if ((rd_T29 y286 t292).f1).size + 1 ≤ 9223372036854775807 then (some (y286.set (t292 : Int).toNat (⟨(rd_T29 y286 t292).f0, ((rd_T29 y286 t292).f1) ++ (⟨#[120]⟩ : ByteArray), (rd_T29 y286 t292).f2⟩ : S29))) else (none)) else (if t293 = 3 then (some (y286.set (t292 : Int).toNat (⟨(rd_T29 y286 t292).f0, (rd_T29 y286 t292).f0, (rd_T29 y286 t292).f2⟩ : S29))) else (if t293 = 4 then (some (y286.set (t292 : Int).toNat (⟨(⟨#[]⟩ : ByteArray), (rd_T29 y286 t292).f1, (rd_T29 y286 t292).f2⟩ : S29))) else (if 0 < (y286.length : Int) then (if y286.length < 3518437208883 then (some (y286 ++ [(⟨(rd_T29 y286 0).f0, (rd_T29 y286 0).f1, (rd_T29 y286 0).f2⟩ : S29)])) else (none)) else (none)))))))) else (none)) else (none))))) else (none))) = some r := h
 clear h
 obtain ⟨y283, hy283⟩ : ∃ y_ : List (S29), y_ = (([] : List (S29))) := ⟨_, rfl⟩
 replace H : (if y283.length + l0.length < 3518437208883 then ((some (y283 ++ l0 : List (S29))).bind fun y286 => (if (y286.length : Int) = 0 then (if y286.length < 3518437208883 then (some (y286 ++ [(⟨(⟨#[]⟩ : ByteArray), (⟨#[]⟩ : ByteArray), a2⟩ : S29)])) else (none)) else ((dialtoneref12_pick.f a3 (y286.length : Int)).bind fun t292 => (if 0 ≤ t292 then (if t292 < (y286.length : Int) then ((dialtoneref12_pick.f a1 6).bind fun t293 => (if t293 = 0 then (some (y286.set (t292 : Int).toNat (⟨(rd_T29 y286 t292).f0, (rd_T29 y286 t292).f1, a2⟩ : S29))) else (if t293 = 1 then ((dialtoneref12_pick.f a2 1000).bind fun t296 => ((dialtoneref12_prefix.f k t296 3).bind fun t297 => (if ((rd_T29 y286 t292).f0).size + t297.size ≤ 9223372036854775807 then (some (y286.set (t292 : Int).toNat (⟨((rd_T29 y286 t292).f0) ++ t297, (rd_T29 y286 t292).f1, (rd_T29 y286 t292).f2⟩ : S29))) else (none)))) else (if t293 = 2 then (if ((rd_T29 y286 t292).f1).size + 1 ≤ 9223372036854775807 then (some (y286.set (t292 : Int).toNat (⟨(rd_T29 y286 t292).f0, ((rd_T29 y286 t292).f1) ++ (⟨#[120]⟩ : ByteArray), (rd_T29 y286 t292).f2⟩ : S29))) else (none)) else (if t293 = 3 then (some (y286.set (t292 : Int).toNat (⟨(rd_T29 y286 t292).f0, (rd_T29 y286 t292).f0, (rd_T29 y286 t292).f2⟩ : S29))) else (if t293 = 4 then (some (y286.set (t292 : Int).toNat (⟨(⟨#[]⟩ : ByteArray), (rd_T29 y286 t292).f1, (rd_T29 y286 t292).f2⟩ : S29))) else (if 0 < (y286.length : Int) then (if y286.length < 3518437208883 then (some (y286 ++ [(⟨(rd_T29 y286 0).f0, (rd_T29 y286 0).f1, (rd_T29 y286 0).f2⟩ : S29)])) else (none)) else (none)))))))) else (none)) else (none))))) else (none)) = some r := by first | (rw [hy283]; with_reducible exact H) | (have H2_ := (Option.bind_some _ _).symm.trans H; rw [hy283]; with_reducible exact H2_) | (have H2_ := (Option.bind_some _ _).symm.trans H; with_reducible exact H2_) | with_reducible exact H | (rw [hy283]; exact H) | exact H
 have Ny283 := Aside0.mk hy283
 clear hy283
 by_cases c5 : y283.length + l0.length < 3518437208883
 rotate_left
 ·rw [if_neg c5] at H
  exact absurd H (by simp)
 rw [if_pos c5] at H
 have LMc5 := Aside0.mk c5
 clear c5
 obtain ⟨y286, hy286⟩ : ∃ y_ : List (S29), y_ = (y283 ++ l0) := ⟨_, rfl⟩
 replace H : (if (y286.length : Int) = 0 then (if y286.length < 3518437208883 then (some (y286 ++ [(⟨(⟨#[]⟩ : ByteArray), (⟨#[]⟩ : ByteArray), a2⟩ : S29)])) else (none)) else ((dialtoneref12_pick.f a3 (y286.length : Int)).bind fun t292 => (if 0 ≤ t292 then (if t292 < (y286.length : Int) then ((dialtoneref12_pick.f a1 6).bind fun t293 => (if t293 = 0 then (some (y286.set (t292 : Int).toNat (⟨(rd_T29 y286 t292).f0, (rd_T29 y286 t292).f1, a2⟩ : S29))) else (if t293 = 1 then ((dialtoneref12_pick.f a2 1000).bind fun t296 => ((dialtoneref12_prefix.f k t296 3).bind fun t297 => (if ((rd_T29 y286 t292).f0).size + t297.size ≤ 9223372036854775807 then (some (y286.set (t292 : Int).toNat (⟨((rd_T29 y286 t292).f0) ++ t297, (rd_T29 y286 t292).f1, (rd_T29 y286 t292).f2⟩ : S29))) else (none)))) else (if t293 = 2 then (if ((rd_T29 y286 t292).f1).size + 1 ≤ 9223372036854775807 then (some (y286.set (t292 : Int).toNat (⟨(rd_T29 y286 t292).f0, ((rd_T29 y286 t292).f1) ++ (⟨#[120]⟩ : ByteArray), (rd_T29 y286 t292).f2⟩ : S29))) else (none)) else (if t293 = 3 then (some (y286.set (t292 : Int).toNat (⟨(rd_T29 y286 t292).f0, (rd_T29 y286 t292).f0, (rd_T29 y286 t292).f2⟩ : S29))) else (if t293 = 4 then (some (y286.set (t292 : Int).toNat (⟨(⟨#[]⟩ : ByteArray), (rd_T29 y286 t292).f1, (rd_T29 y286 t292).f2⟩ : S29))) else (if 0 < (y286.length : Int) then (if y286.length < 3518437208883 then (some (y286 ++ [(⟨(rd_T29 y286 0).f0, (rd_T29 y286 0).f1, (rd_T29 y286 0).f2⟩ : S29)])) else (none)) else (none)))))))) else (none)) else (none)))) = some r := by first | (rw [hy286]; with_reducible exact H) | (have H2_ := (Option.bind_some _ _).symm.trans H; rw [hy286]; with_reducible exact H2_) | (have H2_ := (Option.bind_some _ _).symm.trans H; with_reducible exact H2_) | with_reducible exact H | (rw [hy286]; exact H) | exact H
 have Ny286 := Aside0.mk hy286
 clear hy286
 by_cases c6 : (y286.length : Int) = 0
 ·rw [if_pos c6] at H
  have c6b0 : ((y286.length : Int) == 0) = true := beq_iff_eq.mpr c6
  have c6b1 : ((y286.length : Int) != 0) = false := bne_eq_false_iff_eq.mpr c6
  clear c6
  by_cases c7 : y286.length < 3518437208883
  rotate_left
  ·rw [if_neg c7] at H
   exact absurd H (by simp)
  rw [if_pos c7] at H
  have LMc7 := Aside0.mk c7
  clear c7
  obtain ⟨y289, hy289⟩ : ∃ y_ : List (S29), y_ = (y286 ++ [(⟨(⟨#[]⟩ : ByteArray), (⟨#[]⟩ : ByteArray), a2⟩ : S29)]) := ⟨_, rfl⟩
  replace H : (some y289) = some r := by first | (rw [hy289]; with_reducible exact H) | (have H2_ := (Option.bind_some _ _).symm.trans H; rw [hy289]; with_reducible exact H2_) | (have H2_ := (Option.bind_some _ _).symm.trans H; with_reducible exact H2_) | with_reducible exact H | (rw [hy289]; exact H) | exact H
  have Ny289 := Aside0.mk hy289
  clear hy289
  obtain rfl := Option.some.inj H
  go_enter Tryz.func14, Tryz.ntmps14
  go_wp2_with (first | ((with_reducible refine gate_dst (N := 11) rfl ?_); refine Kd.R_lit k29 _ 29 ?hg (N := 11) ?hd (xs := ([] : List (S29))) (inner := []) (ok := fun _ => True) (okp := fun _ => True) ?hr ?hp (fun _ hk => hk) trivial (Below.refl _ _) (Nat.le_refl _) (by simp) ?_; (case hd => rfl); (case hg => rfl); (case hr => exact zq3); (case hp => exact zq95); intro v284 w8 ho9 hb hg_ hnew_; clear hg_ hnew_; (first | rw [← Ny283.out] at ho9 | (simp only [Int.reduceToNat] at ho9; rw [← Ny283.out] at ho9)); have HO285 := Aside0.mk (Kd.R_lower ho9 (below_size (zq5))); replace HB := Aside0.mk (below_step (zq5) hb); clear hb ho9) | ((with_reducible refine gate_builtin (b := .append) (xs := #[.tmp 11, .tmp 12]) rfl ?_); at_builtin; refine Kd.R_append_rows k29 (w0 := w) w.heap.size rfl (.tmp 11) (.tmp 12) 24 29 (.agg #[(.string ⟨#[]⟩), (.string ⟨#[]⟩), (.int .i64 0)]) 40 rfl Tryz.underlying24 info29 rfl (by decide) (by omega) v284 y283 l0 _ _ _ (fun _ => True) (fun _ => False) rfl rfl ?aO ?aR (fun _ _ h => h) (fun _ h => h.elim) ?aF ?aB ?aS ?aL ?_; (case aR => exact zq28); (case aB => exact zq98); (case aF => exact zq113); (case aO => exact zq114); (case aS => exact zq102); (case aL => exact zq116); intro v287 w10 ho hb hg hat; rw [← Ny286.out] at ho; replace HB := Aside0.mk (hb); have HO288 := Aside0.mk (ho); clear HO285; clear ho hb hg hat; obtain ⟨Ao11, co11, eo11⟩ := Kd.R_slice HO288.out; subst eo11) | ((with_reducible refine gate_builtin (b := .append) (xs := #[.tmp 17, .tmp 20]) rfl ?_); at_builtin; refine Kd.R_append k29 (w0 := w) w.heap.size rfl (.tmp 17) (.tmp 20) 24 29 (.agg #[(.string ⟨#[]⟩), (.string ⟨#[]⟩), (.int .i64 0)]) 40 rfl Tryz.underlying24 info29 rfl (by decide) (by omega) (.slice Ao11 y286.length co11) y286 (⟨(⟨#[]⟩ : ByteArray), (⟨#[]⟩ : ByteArray), a2⟩ : S29) [.string (⟨#[]⟩ : ByteArray), .string (⟨#[]⟩ : ByteArray), .int .i64 a2] (fun _ => True) (fun _ => False) rfl rfl ?aP (fun _ hk => hk.elim) ?aF ?aO ?aB ?aS ?aL ?_; (case aP => exact k29_mkM _ _ _ (⟨(⟨#[]⟩ : ByteArray), (⟨#[]⟩ : ByteArray), a2⟩ : S29)); (case aB => exact zq98); (case aF => exact zq113); (case aO => exact zq117); (case aS => exact zq102); (case aL => have := LMc7.out; omega); intro v290 w12 ho hb hg hat; rw [← Ny289.out] at ho; replace HB := Aside0.mk (hb); have HO291 := Aside0.mk (ho); clear HO288; clear ho hb hg hat))
  go_ret
  exact ⟨_, zq6, by (with_reducible repeat (first | apply Kd.R_alloc | apply Kd.R_drewN | apply Kd.R_drew)); exact HO291.out, zq5⟩
 rw [if_neg c6] at H
 have c6b0 : ((y286.length : Int) == 0) = false := beq_eq_false_iff_ne.mpr c6
 have c6b1 : ((y286.length : Int) != 0) = true := bne_iff_ne.mpr c6
 have c6b2 : ¬ (y286 = []) := fun h_ => c6 (by rw [h_]; rfl)
 replace H := Option.bind_eq_some_iff.mp H
 obtain ⟨t292, A130, H⟩ := H
 try dsimp only at H
 have A13 := Aside0.mk A130
 clear A130
 by_cases c14 : 0 ≤ t292
 rotate_left
 ·rw [if_neg c14] at H
  exact absurd H (by simp)
 rw [if_pos c14] at H
 have c14b0 : decide (0 ≤ t292) = true := decide_eq_true c14
 clear c14
 by_cases c15 : t292 < (y286.length : Int)
 rotate_left
 ·rw [if_neg c15] at H
  exact absurd H (by simp)
 rw [if_pos c15] at H
 have c15b0 : decide (t292 < (y286.length : Int)) = true := decide_eq_true c15
 clear c15
 replace H := Option.bind_eq_some_iff.mp H
 obtain ⟨t293, A170, H⟩ := H
 try dsimp only at H
 have A17 := Aside0.mk A170
 clear A170
 by_cases c18 : t293 = 0
 ·rw [if_pos c18] at H
  have c18b0 : (t293 == 0) = true := beq_iff_eq.mpr c18
  have c18b1 : (t293 != 0) = false := bne_eq_false_iff_eq.mpr c18
  clear c18
  obtain ⟨y294, hy294⟩ : ∃ y_ : List (S29), y_ = (y286.set (t292 : Int).toNat (⟨(rd_T29 y286 t292).f0, (rd_T29 y286 t292).f1, a2⟩ : S29)) := ⟨_, rfl⟩
  replace H : (some y294) = some r := by first | (rw [hy294]; with_reducible exact H) | (have H2_ := (Option.bind_some _ _).symm.trans H; rw [hy294]; with_reducible exact H2_) | (have H2_ := (Option.bind_some _ _).symm.trans H; with_reducible exact H2_) | with_reducible exact H | (rw [hy294]; exact H) | exact H
  have Ny294 := Aside0.mk hy294
  clear hy294
  obtain rfl := Option.some.inj H
  go_enter Tryz.func14, Tryz.ntmps14
  go_wp2_with (first | ((with_reducible refine gate_dst (N := 11) rfl ?_); refine Kd.R_lit k29 _ 29 ?hg (N := 11) ?hd (xs := ([] : List (S29))) (inner := []) (ok := fun _ => True) (okp := fun _ => True) ?hr ?hp (fun _ hk => hk) trivial (Below.refl _ _) (Nat.le_refl _) (by simp) ?_; (case hd => rfl); (case hg => rfl); (case hr => exact zq3); (case hp => exact zq95); intro v284 w20 ho21 hb hg_ hnew_; clear hg_ hnew_; (first | rw [← Ny283.out] at ho21 | (simp only [Int.reduceToNat] at ho21; rw [← Ny283.out] at ho21)); have HO285 := Aside0.mk (Kd.R_lower ho21 (below_size (zq5))); replace HB := Aside0.mk (below_step (zq5) hb); clear hb ho21) | ((with_reducible refine gate_builtin (b := .append) (xs := #[.tmp 11, .tmp 12]) rfl ?_); at_builtin; refine Kd.R_append_rows k29 (w0 := w) w.heap.size rfl (.tmp 11) (.tmp 12) 24 29 (.agg #[(.string ⟨#[]⟩), (.string ⟨#[]⟩), (.int .i64 0)]) 40 rfl Tryz.underlying24 info29 rfl (by decide) (by omega) v284 y283 l0 _ _ _ (fun _ => True) (fun _ => False) rfl rfl ?aO ?aR (fun _ _ h => h) (fun _ h => h.elim) ?aF ?aB ?aS ?aL ?_; (case aR => exact zq28); (case aB => exact zq98); (case aF => exact zq113); (case aO => exact zq114); (case aS => exact zq102); (case aL => exact zq116); intro v287 w22 ho hb hg hat; rw [← Ny286.out] at ho; replace HB := Aside0.mk (hb); have HO288 := Aside0.mk (ho); clear HO285; clear ho hb hg hat; obtain ⟨Ao23, co23, eo23⟩ := Kd.R_slice HO288.out; subst eo23) | ((with_reducible refine gate_callee (f := 33) rfl ?_); refine goesL_ (some 26) rfl rfl Tryz.func33 (by kernel_rfl) rfl #[.int .i64 a3, .int .i64 (y286.length : Int)] rfl (zq7) ?_; (with_reducible refine (dialtoneref12_pick.calls a3 (y286.length : Int) t292 _ A13.out).mono ?_); rintro e w' ⟨rfl, ⟨nd, rfl⟩⟩; refine ⟨_, rfl, ?_⟩; (try (rw [drewN_self w22]; generalize hq_ : World.drewN w22 _ = w22; replace HO288 : Aside0 (Kd.R k29 29 w22 w.heap.size (fun _ => True) (.slice Ao23 y286.length co23) y286) := ⟨zq120⟩; replace HB : Aside0 (Below w.heap.size w w22) := ⟨zq121⟩; clear hq_)); have p16 : 0 ≤ (t292 : Int) := of_decide_eq_true (zq18); have q16 : (t292 : Int) < ((y286.length : Int) : Int) := of_decide_eq_true (zq18); obtain ⟨go16, co16, eo16, gb16, gl16, cl16, HG16⟩ := Kd.R_form HO288.out (by omega); (first | cases eo16 | (injection eo16 with ea_ en_ ec_; (first | subst ea_ | (injection ea_ with ea_; subst ea_)); subst ec_; clear en_)); have GB16 := Aside0.mk gb16; have GG16 := Aside0.mk HG16; clear gb16 gl16 HG16; obtain ⟨ce16, hcl16, hM16, hcc16, hfr16⟩ := Kd.R_elem HO288.out z29 (t292 : Int) p16 q16; obtain rfl := k29_openM hM16; have hx16_0 : w22.cell? ⟨go16, (t292 : Int).toNat * 3, none⟩ = some (.string ((rd_T29 y286 t292).f0)) := hcc16 0 _ rfl; have hx16_1 : w22.cell? ⟨go16, (t292 : Int).toNat * 3 + 1, none⟩ = some (.string ((rd_T29 y286 t292).f1)) := hcc16 1 _ rfl; have hx16_2 : w22.cell? ⟨go16, (t292 : Int).toNat * 3 + 2, none⟩ = some (.int .i64 ((rd_T29 y286 t292).f2)) := hcc16 2 _ rfl; have hf16_0 : w22.frozen? ⟨go16, (t292 : Int).toNat * 3, none⟩ = false := hfr16 0; have hf16_1 : w22.frozen? ⟨go16, (t292 : Int).toNat * 3 + 1, none⟩ = false := hfr16 1; have hf16_2 : w22.frozen? ⟨go16, (t292 : Int).toNat * 3 + 2, none⟩ = false := hfr16 2; clear hcl16 hcc16 hfr16 hM16; replace p16 := eq_true p16; replace q16 := eq_true q16) | ((with_reducible refine gate_callee (f := 33) rfl ?_); refine goesL_ (some 29) rfl rfl Tryz.func33 (by kernel_rfl) rfl #[.int .i64 a1, .int .i64 6] rfl (zq7) ?_; (with_reducible refine (dialtoneref12_pick.calls a1 6 t293 _ A17.out).mono ?_); rintro e w' ⟨rfl, ⟨nd, rfl⟩⟩; refine ⟨_, rfl, ?_⟩; (try (rw [drewN_self w22]; generalize hq_ : World.drewN w22 _ = w22; replace HO288 : Aside0 (Kd.R k29 29 w22 w.heap.size (fun _ => True) (.slice (some ⟨go16, 0, none⟩) y286.length co23) y286) := ⟨zq120⟩; replace HB : Aside0 (Below w.heap.size w w22) := ⟨zq121⟩; clear hq_)); have p19 : 0 ≤ (t292 : Int) := of_decide_eq_true (zq18); have q19 : (t292 : Int) < ((y286.length : Int) : Int) := of_decide_eq_true (zq18); obtain ⟨ce19, hcl19, hM19, hcc19, hfr19⟩ := Kd.R_elem HO288.out z29 (t292 : Int) p19 q19; obtain rfl := k29_openM hM19; have hx19_0 : w22.cell? ⟨go16, (t292 : Int).toNat * 3, none⟩ = some (.string ((rd_T29 y286 t292).f0)) := hcc19 0 _ rfl; have hx19_1 : w22.cell? ⟨go16, (t292 : Int).toNat * 3 + 1, none⟩ = some (.string ((rd_T29 y286 t292).f1)) := hcc19 1 _ rfl; have hx19_2 : w22.cell? ⟨go16, (t292 : Int).toNat * 3 + 2, none⟩ = some (.int .i64 ((rd_T29 y286 t292).f2)) := hcc19 2 _ rfl; have hf19_0 : w22.frozen? ⟨go16, (t292 : Int).toNat * 3, none⟩ = false := hfr19 0; have hf19_1 : w22.frozen? ⟨go16, (t292 : Int).toNat * 3 + 1, none⟩ = false := hfr19 1; have hf19_2 : w22.frozen? ⟨go16, (t292 : Int).toNat * 3 + 2, none⟩ = false := hfr19 2; clear hcl19 hcc19 hfr19 hM19; replace p19 := eq_true p19; replace q19 := eq_true q19; have HX24 := Aside0.mk (show Kd.R k29 29 w22 w.heap.size (fun _ => True) (.slice (some ⟨go16, 0, none⟩) y286.length co23) y286 from (zq118)); obtain ⟨ce24, hcl24, hM24, hcc24, hfr24⟩ := Kd.R_elem HX24.out z29 (t292 : Int) (of_decide_eq_true (zq18)) (by have h_ : (t292 : Int) < ((y286.length : Int) : Int) := of_decide_eq_true (zq18); first | exact h_ | (have e_ := (Kd.R_reads' HO288.out).1; omega) | simpa using h_); obtain rfl := k29_openM hM24; have HP24 := Kd.R_seg HX24.out (t292 : Int) (of_decide_eq_true (zq18)) (by have h_ : (t292 : Int) < ((y286.length : Int) : Int) := of_decide_eq_true (zq18); first | exact h_ | (have e_ := (Kd.R_reads' HO288.out).1; omega) | simpa using h_) (seg := [.int .i64 a2]) (j := 2) hcl24 hcc24 (show 3 ≤ 3 from by decide) (x' := (⟨(rd_T29 y286 t292).f0, (rd_T29 y286 t292).f1, a2⟩ : S29)) (k29_mkM _ _ _ (⟨(rd_T29 y286 t292).f0, (rd_T29 y286 t292).f1, a2⟩ : S29) ) (fun _ hk => hk); have hx24_2 := hcc24 2 _ rfl; (try simp only [show (k29).sz = 3 from rfl, Nat.mul_one, Nat.add_zero] at hx24_2); have hf24_2 := hfr24 2; (try simp only [show (k29).sz = 3 from rfl, Nat.mul_one, Nat.add_zero] at hf24_2); clear hcl24 hcc24 hfr24 hM24) | ((with_reducible refine gate_store (t := 3) (p := 41) rfl ?_); refine store_event (t := 3) (p := 41) (v := ?vo_w25) (w1 := (w22.setCell ⟨go16, (t292 : Int).toNat * 3 + 2, none⟩ (.int .i64 a2))) ?hg ?ho ?hn ?hr ?_; (case ho => rfl); (case hg => rfl); (case hn => rfl); (case hr => exact zq3); intro w25 hw; have hg : w22.grownBy w25 (some go16) := (by rw [hw]; exact HP24.2); have hp_ : Kd.R k29 29 w25 w.heap.size (fun _ => True) (.slice (some ⟨go16, 0, none⟩) y286.length co23) y294 := (by rw [hw, Ny294.out]; exact HP24.1); clear HP24; replace HO288 := Aside0.mk (hp_); replace HB := Aside0.mk ((zq119 : Below w.heap.size w w25)); clear hg hw hp_))
  go_ret
  exact ⟨_, zq6, zq118, zq5⟩
 rw [if_neg c18] at H
 have c18b0 : (t293 == 0) = false := beq_eq_false_iff_ne.mpr c18
 have c18b1 : (t293 != 0) = true := bne_iff_ne.mpr c18
 by_cases c26 : t293 = 1
 ·rw [if_pos c26] at H
  have c26b0 : (t293 == 1) = true := beq_iff_eq.mpr c26
  have c26b1 : (t293 != 1) = false := bne_eq_false_iff_eq.mpr c26
  clear c26
  replace H := Option.bind_eq_some_iff.mp H
  obtain ⟨t296, A270, H⟩ := H
  try dsimp only at H
  have A27 := Aside0.mk A270
  clear A270
  replace H := Option.bind_eq_some_iff.mp H
  obtain ⟨t297, A280, H⟩ := H
  try dsimp only at H
  have A28 := Aside0.mk A280
  clear A280
  by_cases c29 : ((rd_T29 y286 t292).f0).size + t297.size ≤ 9223372036854775807
  rotate_left
  ·rw [if_neg c29] at H
   exact absurd H (by simp)
  rw [if_pos c29] at H
  have c29b0 := eq_true c29
  have c29b1 : decide (((rd_T29 y286 t292).f0).size + t297.size ≤ 9223372036854775807) = true := decide_eq_true c29
  try have c29b2 : (9223372036854775807 < ((rd_T29 y286 t292).f0).size + t297.size) = False := eq_false (Nat.not_lt.2 c29)
  obtain ⟨y298, hy298⟩ : ∃ y_ : List (S29), y_ = (y286.set (t292 : Int).toNat (⟨((rd_T29 y286 t292).f0) ++ t297, (rd_T29 y286 t292).f1, (rd_T29 y286 t292).f2⟩ : S29)) := ⟨_, rfl⟩
  replace H : (some y298) = some r := by first | (rw [hy298]; with_reducible exact H) | (have H2_ := (Option.bind_some _ _).symm.trans H; rw [hy298]; with_reducible exact H2_) | (have H2_ := (Option.bind_some _ _).symm.trans H; with_reducible exact H2_) | with_reducible exact H | (rw [hy298]; exact H) | exact H
  have Ny298 := Aside0.mk hy298
  clear hy298
  obtain rfl := Option.some.inj H
  go_enter Tryz.func14, Tryz.ntmps14
  try go_wp2_with (first | ((with_reducible refine gate_dst (N := 11) rfl ?_); refine Kd.R_lit k29 _ 29 ?hg (N := 11) ?hd (xs := ([] : List (S29))) (inner := []) (ok := fun _ => True) (okp := fun _ => True) ?hr ?hp (fun _ hk => hk) trivial (Below.refl _ _) (Nat.le_refl _) (by simp) ?_; (case hd => rfl); (case hg => rfl); (case hr => exact zq3); (case hp => exact zq95); intro v284 w31 ho32 hb hg_ hnew_; clear hg_ hnew_; (first | rw [← Ny283.out] at ho32 | (simp only [Int.reduceToNat] at ho32; rw [← Ny283.out] at ho32)); have HO285 := Aside0.mk (Kd.R_lower ho32 (below_size (zq5))); replace HB := Aside0.mk (below_step (zq5) hb); clear hb ho32) | ((with_reducible refine gate_builtin (b := .append) (xs := #[.tmp 11, .tmp 12]) rfl ?_); at_builtin; refine Kd.R_append_rows k29 (w0 := w) w.heap.size rfl (.tmp 11) (.tmp 12) 24 29 (.agg #[(.string ⟨#[]⟩), (.string ⟨#[]⟩), (.int .i64 0)]) 40 rfl Tryz.underlying24 info29 rfl (by decide) (by omega) v284 y283 l0 _ _ _ (fun _ => True) (fun _ => False) rfl rfl ?aO ?aR (fun _ _ h => h) (fun _ h => h.elim) ?aF ?aB ?aS ?aL ?_; (case aR => exact zq28); (case aB => exact zq98); (case aF => exact zq113); (case aO => exact zq114); (case aS => exact zq102); (case aL => exact zq116); intro v287 w33 ho hb hg hat; rw [← Ny286.out] at ho; replace HB := Aside0.mk (hb); have HO288 := Aside0.mk (ho); clear HO285; clear ho hb hg hat; obtain ⟨Ao34, co34, eo34⟩ := Kd.R_slice HO288.out; subst eo34) | ((with_reducible refine gate_callee (f := 33) rfl ?_); refine goesL_ (some 26) rfl rfl Tryz.func33 (by kernel_rfl) rfl #[.int .i64 a3, .int .i64 (y286.length : Int)] rfl (zq7) ?_; (with_reducible refine (dialtoneref12_pick.calls a3 (y286.length : Int) t292 _ A13.out).mono ?_); rintro e w' ⟨rfl, ⟨nd, rfl⟩⟩; refine ⟨_, rfl, ?_⟩; (try (rw [drewN_self w33]; generalize hq_ : World.drewN w33 _ = w33; replace HO288 : Aside0 (Kd.R k29 29 w33 w.heap.size (fun _ => True) (.slice Ao34 y286.length co34) y286) := ⟨zq120⟩; replace HB : Aside0 (Below w.heap.size w w33) := ⟨zq121⟩; clear hq_)); have p16 : 0 ≤ (t292 : Int) := of_decide_eq_true (zq18); have q16 : (t292 : Int) < ((y286.length : Int) : Int) := of_decide_eq_true (zq18); obtain ⟨go16, co16, eo16, gb16, gl16, cl16, HG16⟩ := Kd.R_form HO288.out (by omega); (first | cases eo16 | (injection eo16 with ea_ en_ ec_; (first | subst ea_ | (injection ea_ with ea_; subst ea_)); subst ec_; clear en_)); have GB16 := Aside0.mk gb16; have GG16 := Aside0.mk HG16; clear gb16 gl16 HG16; obtain ⟨ce16, hcl16, hM16, hcc16, hfr16⟩ := Kd.R_elem HO288.out z29 (t292 : Int) p16 q16; obtain rfl := k29_openM hM16; have hx16_0 : w33.cell? ⟨go16, (t292 : Int).toNat * 3, none⟩ = some (.string ((rd_T29 y286 t292).f0)) := hcc16 0 _ rfl; have hx16_1 : w33.cell? ⟨go16, (t292 : Int).toNat * 3 + 1, none⟩ = some (.string ((rd_T29 y286 t292).f1)) := hcc16 1 _ rfl; have hx16_2 : w33.cell? ⟨go16, (t292 : Int).toNat * 3 + 2, none⟩ = some (.int .i64 ((rd_T29 y286 t292).f2)) := hcc16 2 _ rfl; have hf16_0 : w33.frozen? ⟨go16, (t292 : Int).toNat * 3, none⟩ = false := hfr16 0; have hf16_1 : w33.frozen? ⟨go16, (t292 : Int).toNat * 3 + 1, none⟩ = false := hfr16 1; have hf16_2 : w33.frozen? ⟨go16, (t292 : Int).toNat * 3 + 2, none⟩ = false := hfr16 2; clear hcl16 hcc16 hfr16 hM16; replace p16 := eq_true p16; replace q16 := eq_true q16) | ((with_reducible refine gate_callee (f := 33) rfl ?_); refine goesL_ (some 29) rfl rfl Tryz.func33 (by kernel_rfl) rfl #[.int .i64 a1, .int .i64 6] rfl (zq7) ?_; (with_reducible refine (dialtoneref12_pick.calls a1 6 t293 _ A17.out).mono ?_); rintro e w' ⟨rfl, ⟨nd, rfl⟩⟩; refine ⟨_, rfl, ?_⟩; (try (rw [drewN_self w33]; generalize hq_ : World.drewN w33 _ = w33; replace HO288 : Aside0 (Kd.R k29 29 w33 w.heap.size (fun _ => True) (.slice (some ⟨go16, 0, none⟩) y286.length co34) y286) := ⟨zq120⟩; replace HB : Aside0 (Below w.heap.size w w33) := ⟨zq121⟩; clear hq_))))
  replace HO288 := Aside0.mk (Kd.R_drew HO288.out)
  replace HB := Aside0.mk (below_drew1 HB.out)
  have p295 : 0 ≤ (t292 : Int) := of_decide_eq_true (zq18)
  have q295 : t292 < (y286.length : Int) := of_decide_eq_true (zq18)
  obtain ⟨ad295, e295, hx295_0, hx295_1, hx295_2⟩ := at_T29 (Kd.R_reads' HO288.out).2.2 t292 p295 q295
  obtain rfl : (⟨go16, 0, none⟩ : Addr) = ad295 := (by injection e295)
  (first | simp only [add_plain] at hx295_0 | simp only [add_at] at hx295_0 | simp only [Addr.add, Nat.zero_add] at hx295_0 | skip)
  (first | simp only [add_plain] at hx295_1 | simp only [add_at] at hx295_1 | simp only [Addr.add, Nat.zero_add] at hx295_1 | skip)
  (first | simp only [add_plain] at hx295_2 | simp only [add_at] at hx295_2 | simp only [Addr.add, Nat.zero_add] at hx295_2 | skip)
  replace p295 := eq_true p295
  replace q295 := eq_true q295
  refine start_ (n := 12) (S := fun w' => w'.cell? ⟨go16, (t292).toNat * 3, none⟩ = some (.string ((rd_T29 y286 t292).f0)) ∧ w'.cell? ⟨go16, (t292).toNat * 3 + 1, none⟩ = some (.string ((rd_T29 y286 t292).f1)) ∧ w'.cell? ⟨go16, (t292).toNat * 3 + 2, none⟩ = some (.int .i64 ((rd_T29 y286 t292).f2))) (ds := [11]) (bm 12 0) (by kernel_rfl) rfl rfl ⟨hx295_0, hx295_1, hx295_2⟩ (fun hHeld => ?_); refine with_tabW dialtoneref12_Bent.tab10 dialtoneref12_Bent.bits10 (fun HT_ HW_ => ?_)
  generalize w33.drew = w35 at HO288 HB hx295_0 hx295_1 hx295_2 hHeld ⊢
  refine pz 0 (some 44) (bm 12 1) HT_ ?_
  refine pz 1 (some 45) (bm 12 3) HT_ ?_
  refine pz 2 (some 46) (bm 12 7) HT_ ?_
  refine pz 3 (some 47) (bm 12 15) HT_ ?_
  refine pz 5 (some 49) (bm 12 47) HT_ ?_
  refine tz 4 (some 48) (bm 12 63) HT_ HW_ hHeld ?_
  refine one_ (i := 6) (N := some 50) (bm 12 127) rfl rfl (one_of HT_.out (by kernel_rfl)) (by decide) (fun K hK => ?_)
  refine goes_ Tryz.func33 (by kernel_rfl) rfl #[.int .i64 a2, .int .i64 1000] (by rfl) rfl rfl (zq7) ?_
  with_reducible refine (dialtoneref12_pick.calls a2 1000 t296 _ A27.out).mono ?_
  rintro e w' ⟨rfl, ⟨nd, rfl⟩⟩
  refine ⟨_, rfl, ?_⟩
  refine hK.out _ _ ⟨hHeld.1, hHeld.2.1, hHeld.2.2⟩ (fun hHeld => ?_)
  clear hK K
  refine nz (some 50) ?_
  refine one_ (i := 7) (N := some 51) (bm 12 255) rfl rfl (one_of HT_.out (by kernel_rfl)) (by decide) (fun K hK => ?_)
  refine goes_ Tryz.func34 (by kernel_rfl) rfl #[.int .i64 t296, .int .i64 3] (by rfl) rfl rfl (zq7) ?_
  with_reducible refine (dialtoneref12_prefix.calls k t296 3 t297 _ A28.out).mono ?_
  rintro e w36 ⟨rfl, hb⟩
  have HS0_ := (hb.cell (World.block_lt_of_cell? _ _ (hHeld.1))).trans (hHeld.1)
  have HS1_ := (hb.cell (World.block_lt_of_cell? _ _ (hHeld.2.1))).trans (hHeld.2.1)
  have HS2_ := (hb.cell (World.block_lt_of_cell? _ _ (hHeld.2.2))).trans (hHeld.2.2)
  refine ⟨_, rfl, ?_⟩
  replace HO288 := Aside0.mk (Kd.R_below (zq118) hb)
  replace HB := Aside0.mk (below_step (zq5) hb)
  (try clear hb)
  (try clear hb2)
  (try clear hk)
  (try clear hi)
  have p30 : 0 ≤ (t292 : Int) := of_decide_eq_true (zq18)
  have q30 : (t292 : Int) < ((y286.length : Int) : Int) := of_decide_eq_true (zq18)
  obtain ⟨ce30, hcl30, hM30, hcc30, hfr30⟩ := Kd.R_elem HO288.out z29 (t292 : Int) p30 q30
  obtain rfl := k29_openM hM30
  have hx30_0 : World.cell? _ ⟨go16, (t292 : Int).toNat * 3, none⟩ = some (.string ((rd_T29 y286 t292).f0)) := hcc30 0 _ rfl
  have hx30_1 : World.cell? _ ⟨go16, (t292 : Int).toNat * 3 + 1, none⟩ = some (.string ((rd_T29 y286 t292).f1)) := hcc30 1 _ rfl
  have hx30_2 : World.cell? _ ⟨go16, (t292 : Int).toNat * 3 + 2, none⟩ = some (.int .i64 ((rd_T29 y286 t292).f2)) := hcc30 2 _ rfl
  have hf30_0 : World.frozen? _ ⟨go16, (t292 : Int).toNat * 3, none⟩ = false := hfr30 0
  have hf30_1 : World.frozen? _ ⟨go16, (t292 : Int).toNat * 3 + 1, none⟩ = false := hfr30 1
  have hf30_2 : World.frozen? _ ⟨go16, (t292 : Int).toNat * 3 + 2, none⟩ = false := hfr30 2
  clear hcl30 hcc30 hfr30 hM30
  replace p30 := eq_true p30
  replace q30 := eq_true q30
  obtain ⟨ce37, hcl37, hM37, hcc37, hfr37⟩ := Kd.R_elem HO288.out z29 (t292 : Int) (of_decide_eq_true (zq18)) (by have h_ : (t292 : Int) < ((y286.length : Int) : Int) := of_decide_eq_true (zq18); first | exact h_ | (have e_ := (Kd.R_reads' HO288.out).1; omega) | simpa using h_)
  obtain rfl := k29_openM hM37
  have HP37 := (Kd.R_seg HO288.out (t292 : Int) (of_decide_eq_true (zq18)) (by have h_ : (t292 : Int) < ((y286.length : Int) : Int) := of_decide_eq_true (zq18); first | exact h_ | (have e_ := (Kd.R_reads' HO288.out).1; omega) | simpa using h_) (seg := [.string (((rd_T29 y286 t292).f0) ++ t297)]) (j := 0) hcl37 hcc37 (show 1 ≤ 3 from by decide) (x' := (⟨((rd_T29 y286 t292).f0) ++ t297, (rd_T29 y286 t292).f1, (rd_T29 y286 t292).f2⟩ : S29)) (k29_mkM _ _ _ (⟨((rd_T29 y286 t292).f0) ++ t297, (rd_T29 y286 t292).f1, (rd_T29 y286 t292).f2⟩ : S29) ) (fun _ hk => hk)).1
  rw [← Ny298.out] at HP37
  have HQ37 := Aside0.mk HP37
  clear hcl37 hcc37 hfr37 hM37 HP37
  refine hK.out _ _ ⟨HS0_, HS1_, HS2_⟩ (fun hHeld => ?_)
  clear hK K
  refine nz (some 51) ?_
  refine pz 8 (some 52) (bm 12 511) HT_ ?_
  refine pz 9 (some 53) (bm 12 1023) HT_ ?_
  refine pz 10 (some 54) (bm 12 2047) HT_ ?_
  refine last_ (i := 11) (N := none) (bm 12 4095) rfl rfl (one_of HT_.out (by kernel_rfl)) (by decide) (fun K hK => ?_)
  refine skip_ (w1 := ?_) (by rfl) rfl ?_ ?_
  rotate_left
  ·go_simp
   rfl
  refine hK.out _ _ ?_
  clear hK K
  refine done_ (done_of HT_.out (by kernel_rfl)) ?_
  try go_wp2
  go_ret
  exact ⟨_, zq6, by (with_reducible repeat (first | apply Kd.R_alloc | apply Kd.R_drewN | apply Kd.R_drew)); exact HQ37.out, by repeat (first | (with_reducible first | exact HB.out | apply below_alloc | apply pw_below_drewN | apply below_drew1 | refine below_set ?_ GB16.out) | exact HB.out)⟩
 rw [if_neg c26] at H
 have c26b0 : (t293 == 1) = false := beq_eq_false_iff_ne.mpr c26
 have c26b1 : (t293 != 1) = true := bne_iff_ne.mpr c26
 by_cases c38 : t293 = 2
 ·rw [if_pos c38] at H
  have c38b0 : (t293 == 2) = true := beq_iff_eq.mpr c38
  have c38b1 : (t293 != 2) = false := bne_eq_false_iff_eq.mpr c38
  clear c38
  by_cases c39 : ((rd_T29 y286 t292).f1).size + 1 ≤ 9223372036854775807
  rotate_left
  ·rw [if_neg c39] at H
   exact absurd H (by simp)
  rw [if_pos c39] at H
  have c39b0 := eq_true c39
  have c39b1 : decide (((rd_T29 y286 t292).f1).size + 1 ≤ 9223372036854775807) = true := decide_eq_true c39
  try have c39b2 : (9223372036854775807 < ((rd_T29 y286 t292).f1).size + 1) = False := eq_false (Nat.not_lt.2 c39)
  obtain ⟨y300, hy300⟩ : ∃ y_ : List (S29), y_ = (y286.set (t292 : Int).toNat (⟨(rd_T29 y286 t292).f0, ((rd_T29 y286 t292).f1) ++ (⟨#[120]⟩ : ByteArray), (rd_T29 y286 t292).f2⟩ : S29)) := ⟨_, rfl⟩
  replace H : (some y300) = some r := by first | (rw [hy300]; with_reducible exact H) | (have H2_ := (Option.bind_some _ _).symm.trans H; rw [hy300]; with_reducible exact H2_) | (have H2_ := (Option.bind_some _ _).symm.trans H; with_reducible exact H2_) | with_reducible exact H | (rw [hy300]; exact H) | exact H
  have Ny300 := Aside0.mk hy300
  clear hy300
  obtain rfl := Option.some.inj H
  go_enter Tryz.func14, Tryz.ntmps14
  go_wp2_with (first | ((with_reducible refine gate_dst (N := 11) rfl ?_); refine Kd.R_lit k29 _ 29 ?hg (N := 11) ?hd (xs := ([] : List (S29))) (inner := []) (ok := fun _ => True) (okp := fun _ => True) ?hr ?hp (fun _ hk => hk) trivial (Below.refl _ _) (Nat.le_refl _) (by simp) ?_; (case hd => rfl); (case hg => rfl); (case hr => exact zq3); (case hp => exact zq95); intro v284 w41 ho42 hb hg_ hnew_; clear hg_ hnew_; (first | rw [← Ny283.out] at ho42 | (simp only [Int.reduceToNat] at ho42; rw [← Ny283.out] at ho42)); have HO285 := Aside0.mk (Kd.R_lower ho42 (below_size (zq5))); replace HB := Aside0.mk (below_step (zq5) hb); clear hb ho42) | ((with_reducible refine gate_builtin (b := .append) (xs := #[.tmp 11, .tmp 12]) rfl ?_); at_builtin; refine Kd.R_append_rows k29 (w0 := w) w.heap.size rfl (.tmp 11) (.tmp 12) 24 29 (.agg #[(.string ⟨#[]⟩), (.string ⟨#[]⟩), (.int .i64 0)]) 40 rfl Tryz.underlying24 info29 rfl (by decide) (by omega) v284 y283 l0 _ _ _ (fun _ => True) (fun _ => False) rfl rfl ?aO ?aR (fun _ _ h => h) (fun _ h => h.elim) ?aF ?aB ?aS ?aL ?_; (case aR => exact zq28); (case aB => exact zq98); (case aF => exact zq113); (case aO => exact zq114); (case aS => exact zq102); (case aL => exact zq116); intro v287 w43 ho hb hg hat; rw [← Ny286.out] at ho; replace HB := Aside0.mk (hb); have HO288 := Aside0.mk (ho); clear HO285; clear ho hb hg hat; obtain ⟨Ao44, co44, eo44⟩ := Kd.R_slice HO288.out; subst eo44) | ((with_reducible refine gate_callee (f := 33) rfl ?_); refine goesL_ (some 26) rfl rfl Tryz.func33 (by kernel_rfl) rfl #[.int .i64 a3, .int .i64 (y286.length : Int)] rfl (zq7) ?_; (with_reducible refine (dialtoneref12_pick.calls a3 (y286.length : Int) t292 _ A13.out).mono ?_); rintro e w' ⟨rfl, ⟨nd, rfl⟩⟩; refine ⟨_, rfl, ?_⟩; (try (rw [drewN_self w43]; generalize hq_ : World.drewN w43 _ = w43; replace HO288 : Aside0 (Kd.R k29 29 w43 w.heap.size (fun _ => True) (.slice Ao44 y286.length co44) y286) := ⟨zq120⟩; replace HB : Aside0 (Below w.heap.size w w43) := ⟨zq121⟩; clear hq_)); have p16 : 0 ≤ (t292 : Int) := of_decide_eq_true (zq18); have q16 : (t292 : Int) < ((y286.length : Int) : Int) := of_decide_eq_true (zq18); obtain ⟨go16, co16, eo16, gb16, gl16, cl16, HG16⟩ := Kd.R_form HO288.out (by omega); (first | cases eo16 | (injection eo16 with ea_ en_ ec_; (first | subst ea_ | (injection ea_ with ea_; subst ea_)); subst ec_; clear en_)); have GB16 := Aside0.mk gb16; have GG16 := Aside0.mk HG16; clear gb16 gl16 HG16; obtain ⟨ce16, hcl16, hM16, hcc16, hfr16⟩ := Kd.R_elem HO288.out z29 (t292 : Int) p16 q16; obtain rfl := k29_openM hM16; have hx16_0 : w43.cell? ⟨go16, (t292 : Int).toNat * 3, none⟩ = some (.string ((rd_T29 y286 t292).f0)) := hcc16 0 _ rfl; have hx16_1 : w43.cell? ⟨go16, (t292 : Int).toNat * 3 + 1, none⟩ = some (.string ((rd_T29 y286 t292).f1)) := hcc16 1 _ rfl; have hx16_2 : w43.cell? ⟨go16, (t292 : Int).toNat * 3 + 2, none⟩ = some (.int .i64 ((rd_T29 y286 t292).f2)) := hcc16 2 _ rfl; have hf16_0 : w43.frozen? ⟨go16, (t292 : Int).toNat * 3, none⟩ = false := hfr16 0; have hf16_1 : w43.frozen? ⟨go16, (t292 : Int).toNat * 3 + 1, none⟩ = false := hfr16 1; have hf16_2 : w43.frozen? ⟨go16, (t292 : Int).toNat * 3 + 2, none⟩ = false := hfr16 2; clear hcl16 hcc16 hfr16 hM16; replace p16 := eq_true p16; replace q16 := eq_true q16) | ((with_reducible refine gate_callee (f := 33) rfl ?_); refine goesL_ (some 29) rfl rfl Tryz.func33 (by kernel_rfl) rfl #[.int .i64 a1, .int .i64 6] rfl (zq7) ?_; (with_reducible refine (dialtoneref12_pick.calls a1 6 t293 _ A17.out).mono ?_); rintro e w' ⟨rfl, ⟨nd, rfl⟩⟩; refine ⟨_, rfl, ?_⟩; (try (rw [drewN_self w43]; generalize hq_ : World.drewN w43 _ = w43; replace HO288 : Aside0 (Kd.R k29 29 w43 w.heap.size (fun _ => True) (.slice (some ⟨go16, 0, none⟩) y286.length co44) y286) := ⟨zq120⟩; replace HB : Aside0 (Below w.heap.size w w43) := ⟨zq121⟩; clear hq_)); have p299 : 0 ≤ (t292 : Int) := of_decide_eq_true (zq18); have q299 : t292 < (y286.length : Int) := of_decide_eq_true (zq18); obtain ⟨ad299, e299, hx299_0, hx299_1, hx299_2⟩ := at_T29 (Kd.R_reads' HO288.out).2.2 t292 p299 q299; obtain rfl : (⟨go16, 0, none⟩ : Addr) = ad299 := (by injection e299); (first | simp only [add_plain] at hx299_0 | simp only [add_at] at hx299_0 | simp only [Addr.add, Nat.zero_add] at hx299_0 | skip); (first | simp only [add_plain] at hx299_1 | simp only [add_at] at hx299_1 | simp only [Addr.add, Nat.zero_add] at hx299_1 | skip); (first | simp only [add_plain] at hx299_2 | simp only [add_at] at hx299_2 | simp only [Addr.add, Nat.zero_add] at hx299_2 | skip); replace p299 := eq_true p299; replace q299 := eq_true q299; have p40 : 0 ≤ (t292 : Int) := of_decide_eq_true (zq18); have q40 : (t292 : Int) < ((y286.length : Int) : Int) := of_decide_eq_true (zq18); obtain ⟨ce40, hcl40, hM40, hcc40, hfr40⟩ := Kd.R_elem HO288.out z29 (t292 : Int) p40 q40; obtain rfl := k29_openM hM40; have hx40_0 : w43.cell? ⟨go16, (t292 : Int).toNat * 3, none⟩ = some (.string ((rd_T29 y286 t292).f0)) := hcc40 0 _ rfl; have hx40_1 : w43.cell? ⟨go16, (t292 : Int).toNat * 3 + 1, none⟩ = some (.string ((rd_T29 y286 t292).f1)) := hcc40 1 _ rfl; have hx40_2 : w43.cell? ⟨go16, (t292 : Int).toNat * 3 + 2, none⟩ = some (.int .i64 ((rd_T29 y286 t292).f2)) := hcc40 2 _ rfl; have hf40_0 : w43.frozen? ⟨go16, (t292 : Int).toNat * 3, none⟩ = false := hfr40 0; have hf40_1 : w43.frozen? ⟨go16, (t292 : Int).toNat * 3 + 1, none⟩ = false := hfr40 1; have hf40_2 : w43.frozen? ⟨go16, (t292 : Int).toNat * 3 + 2, none⟩ = false := hfr40 2; clear hcl40 hcc40 hfr40 hM40; replace p40 := eq_true p40; replace q40 := eq_true q40; have HX45 := Aside0.mk (show Kd.R k29 29 w43 w.heap.size (fun _ => True) (.slice (some ⟨go16, 0, none⟩) y286.length co44) y286 from (zq118)); obtain ⟨ce45, hcl45, hM45, hcc45, hfr45⟩ := Kd.R_elem HX45.out z29 (t292 : Int) (of_decide_eq_true (zq18)) (by have h_ : (t292 : Int) < ((y286.length : Int) : Int) := of_decide_eq_true (zq18); first | exact h_ | (have e_ := (Kd.R_reads' HO288.out).1; omega) | simpa using h_); obtain rfl := k29_openM hM45; have HP45 := Kd.R_seg HX45.out (t292 : Int) (of_decide_eq_true (zq18)) (by have h_ : (t292 : Int) < ((y286.length : Int) : Int) := of_decide_eq_true (zq18); first | exact h_ | (have e_ := (Kd.R_reads' HO288.out).1; omega) | simpa using h_) (seg := [.string (((rd_T29 y286 t292).f1) ++ (⟨#[120]⟩ : ByteArray))]) (j := 1) hcl45 hcc45 (show 2 ≤ 3 from by decide) (x' := (⟨(rd_T29 y286 t292).f0, ((rd_T29 y286 t292).f1) ++ (⟨#[120]⟩ : ByteArray), (rd_T29 y286 t292).f2⟩ : S29)) (k29_mkM _ _ _ (⟨(rd_T29 y286 t292).f0, ((rd_T29 y286 t292).f1) ++ (⟨#[120]⟩ : ByteArray), (rd_T29 y286 t292).f2⟩ : S29) ) (fun _ hk => hk); have hx45_1 := hcc45 1 _ rfl; (try simp only [show (k29).sz = 3 from rfl, Nat.mul_one, Nat.add_zero] at hx45_1); have hf45_1 := hfr45 1; (try simp only [show (k29).sz = 3 from rfl, Nat.mul_one, Nat.add_zero] at hf45_1); clear hcl45 hcc45 hfr45 hM45) | ((with_reducible refine gate_store (t := 9) (p := 64) rfl ?_); refine store_event (t := 9) (p := 64) (v := ?vo_w46) (w1 := (w43.setCell ⟨go16, (t292 : Int).toNat * 3 + 1, none⟩ (.string (((rd_T29 y286 t292).f1) ++ (⟨#[120]⟩ : ByteArray))))) ?hg ?ho ?hn ?hr ?_; (case ho => rfl); (case hg => rfl); (case hn => rfl); (case hr => exact zq3); intro w46 hw; have hg : w43.grownBy w46 (some go16) := (by rw [hw]; exact HP45.2); have hp_ : Kd.R k29 29 w46 w.heap.size (fun _ => True) (.slice (some ⟨go16, 0, none⟩) y286.length co44) y300 := (by rw [hw, Ny300.out]; exact HP45.1); clear HP45; replace HO288 := Aside0.mk (hp_); replace HB := Aside0.mk ((zq119 : Below w.heap.size w w46)); clear hg hw hp_))
  go_ret
  exact ⟨_, zq6, zq118, zq5⟩
 rw [if_neg c38] at H
 have c38b0 : (t293 == 2) = false := beq_eq_false_iff_ne.mpr c38
 have c38b1 : (t293 != 2) = true := bne_iff_ne.mpr c38
 by_cases c47 : t293 = 3
 ·rw [if_pos c47] at H
  have c47b0 : (t293 == 3) = true := beq_iff_eq.mpr c47
  have c47b1 : (t293 != 3) = false := bne_eq_false_iff_eq.mpr c47
  clear c47
  obtain ⟨y302, hy302⟩ : ∃ y_ : List (S29), y_ = (y286.set (t292 : Int).toNat (⟨(rd_T29 y286 t292).f0, (rd_T29 y286 t292).f0, (rd_T29 y286 t292).f2⟩ : S29)) := ⟨_, rfl⟩
  replace H : (some y302) = some r := by first | (rw [hy302]; with_reducible exact H) | (have H2_ := (Option.bind_some _ _).symm.trans H; rw [hy302]; with_reducible exact H2_) | (have H2_ := (Option.bind_some _ _).symm.trans H; with_reducible exact H2_) | with_reducible exact H | (rw [hy302]; exact H) | exact H
  have Ny302 := Aside0.mk hy302
  clear hy302
  obtain rfl := Option.some.inj H
  go_enter Tryz.func14, Tryz.ntmps14
  go_wp2_with (first | ((with_reducible refine gate_dst (N := 11) rfl ?_); refine Kd.R_lit k29 _ 29 ?hg (N := 11) ?hd (xs := ([] : List (S29))) (inner := []) (ok := fun _ => True) (okp := fun _ => True) ?hr ?hp (fun _ hk => hk) trivial (Below.refl _ _) (Nat.le_refl _) (by simp) ?_; (case hd => rfl); (case hg => rfl); (case hr => exact zq3); (case hp => exact zq95); intro v284 w49 ho50 hb hg_ hnew_; clear hg_ hnew_; (first | rw [← Ny283.out] at ho50 | (simp only [Int.reduceToNat] at ho50; rw [← Ny283.out] at ho50)); have HO285 := Aside0.mk (Kd.R_lower ho50 (below_size (zq5))); replace HB := Aside0.mk (below_step (zq5) hb); clear hb ho50) | ((with_reducible refine gate_builtin (b := .append) (xs := #[.tmp 11, .tmp 12]) rfl ?_); at_builtin; refine Kd.R_append_rows k29 (w0 := w) w.heap.size rfl (.tmp 11) (.tmp 12) 24 29 (.agg #[(.string ⟨#[]⟩), (.string ⟨#[]⟩), (.int .i64 0)]) 40 rfl Tryz.underlying24 info29 rfl (by decide) (by omega) v284 y283 l0 _ _ _ (fun _ => True) (fun _ => False) rfl rfl ?aO ?aR (fun _ _ h => h) (fun _ h => h.elim) ?aF ?aB ?aS ?aL ?_; (case aR => exact zq28); (case aB => exact zq98); (case aF => exact zq113); (case aO => exact zq114); (case aS => exact zq102); (case aL => exact zq116); intro v287 w51 ho hb hg hat; rw [← Ny286.out] at ho; replace HB := Aside0.mk (hb); have HO288 := Aside0.mk (ho); clear HO285; clear ho hb hg hat; obtain ⟨Ao52, co52, eo52⟩ := Kd.R_slice HO288.out; subst eo52) | ((with_reducible refine gate_callee (f := 33) rfl ?_); refine goesL_ (some 26) rfl rfl Tryz.func33 (by kernel_rfl) rfl #[.int .i64 a3, .int .i64 (y286.length : Int)] rfl (zq7) ?_; (with_reducible refine (dialtoneref12_pick.calls a3 (y286.length : Int) t292 _ A13.out).mono ?_); rintro e w' ⟨rfl, ⟨nd, rfl⟩⟩; refine ⟨_, rfl, ?_⟩; (try (rw [drewN_self w51]; generalize hq_ : World.drewN w51 _ = w51; replace HO288 : Aside0 (Kd.R k29 29 w51 w.heap.size (fun _ => True) (.slice Ao52 y286.length co52) y286) := ⟨zq120⟩; replace HB : Aside0 (Below w.heap.size w w51) := ⟨zq121⟩; clear hq_)); have p16 : 0 ≤ (t292 : Int) := of_decide_eq_true (zq18); have q16 : (t292 : Int) < ((y286.length : Int) : Int) := of_decide_eq_true (zq18); obtain ⟨go16, co16, eo16, gb16, gl16, cl16, HG16⟩ := Kd.R_form HO288.out (by omega); (first | cases eo16 | (injection eo16 with ea_ en_ ec_; (first | subst ea_ | (injection ea_ with ea_; subst ea_)); subst ec_; clear en_)); have GB16 := Aside0.mk gb16; have GG16 := Aside0.mk HG16; clear gb16 gl16 HG16; obtain ⟨ce16, hcl16, hM16, hcc16, hfr16⟩ := Kd.R_elem HO288.out z29 (t292 : Int) p16 q16; obtain rfl := k29_openM hM16; have hx16_0 : w51.cell? ⟨go16, (t292 : Int).toNat * 3, none⟩ = some (.string ((rd_T29 y286 t292).f0)) := hcc16 0 _ rfl; have hx16_1 : w51.cell? ⟨go16, (t292 : Int).toNat * 3 + 1, none⟩ = some (.string ((rd_T29 y286 t292).f1)) := hcc16 1 _ rfl; have hx16_2 : w51.cell? ⟨go16, (t292 : Int).toNat * 3 + 2, none⟩ = some (.int .i64 ((rd_T29 y286 t292).f2)) := hcc16 2 _ rfl; have hf16_0 : w51.frozen? ⟨go16, (t292 : Int).toNat * 3, none⟩ = false := hfr16 0; have hf16_1 : w51.frozen? ⟨go16, (t292 : Int).toNat * 3 + 1, none⟩ = false := hfr16 1; have hf16_2 : w51.frozen? ⟨go16, (t292 : Int).toNat * 3 + 2, none⟩ = false := hfr16 2; clear hcl16 hcc16 hfr16 hM16; replace p16 := eq_true p16; replace q16 := eq_true q16) | ((with_reducible refine gate_callee (f := 33) rfl ?_); refine goesL_ (some 29) rfl rfl Tryz.func33 (by kernel_rfl) rfl #[.int .i64 a1, .int .i64 6] rfl (zq7) ?_; (with_reducible refine (dialtoneref12_pick.calls a1 6 t293 _ A17.out).mono ?_); rintro e w' ⟨rfl, ⟨nd, rfl⟩⟩; refine ⟨_, rfl, ?_⟩; (try (rw [drewN_self w51]; generalize hq_ : World.drewN w51 _ = w51; replace HO288 : Aside0 (Kd.R k29 29 w51 w.heap.size (fun _ => True) (.slice (some ⟨go16, 0, none⟩) y286.length co52) y286) := ⟨zq120⟩; replace HB : Aside0 (Below w.heap.size w w51) := ⟨zq121⟩; clear hq_)); have p301 : 0 ≤ (t292 : Int) := of_decide_eq_true (zq18); have q301 : t292 < (y286.length : Int) := of_decide_eq_true (zq18); obtain ⟨ad301, e301, hx301_0, hx301_1, hx301_2⟩ := at_T29 (Kd.R_reads' HO288.out).2.2 t292 p301 q301; obtain rfl : (⟨go16, 0, none⟩ : Addr) = ad301 := (by injection e301); (first | simp only [add_plain] at hx301_0 | simp only [add_at] at hx301_0 | simp only [Addr.add, Nat.zero_add] at hx301_0 | skip); (first | simp only [add_plain] at hx301_1 | simp only [add_at] at hx301_1 | simp only [Addr.add, Nat.zero_add] at hx301_1 | skip); (first | simp only [add_plain] at hx301_2 | simp only [add_at] at hx301_2 | simp only [Addr.add, Nat.zero_add] at hx301_2 | skip); replace p301 := eq_true p301; replace q301 := eq_true q301; have p48 : 0 ≤ (t292 : Int) := of_decide_eq_true (zq18); have q48 : (t292 : Int) < ((y286.length : Int) : Int) := of_decide_eq_true (zq18); obtain ⟨ce48, hcl48, hM48, hcc48, hfr48⟩ := Kd.R_elem HO288.out z29 (t292 : Int) p48 q48; obtain rfl := k29_openM hM48; have hx48_0 : w51.cell? ⟨go16, (t292 : Int).toNat * 3, none⟩ = some (.string ((rd_T29 y286 t292).f0)) := hcc48 0 _ rfl; have hx48_1 : w51.cell? ⟨go16, (t292 : Int).toNat * 3 + 1, none⟩ = some (.string ((rd_T29 y286 t292).f1)) := hcc48 1 _ rfl; have hx48_2 : w51.cell? ⟨go16, (t292 : Int).toNat * 3 + 2, none⟩ = some (.int .i64 ((rd_T29 y286 t292).f2)) := hcc48 2 _ rfl; have hf48_0 : w51.frozen? ⟨go16, (t292 : Int).toNat * 3, none⟩ = false := hfr48 0; have hf48_1 : w51.frozen? ⟨go16, (t292 : Int).toNat * 3 + 1, none⟩ = false := hfr48 1; have hf48_2 : w51.frozen? ⟨go16, (t292 : Int).toNat * 3 + 2, none⟩ = false := hfr48 2; clear hcl48 hcc48 hfr48 hM48; replace p48 := eq_true p48; replace q48 := eq_true q48; have HX53 := Aside0.mk (show Kd.R k29 29 w51 w.heap.size (fun _ => True) (.slice (some ⟨go16, 0, none⟩) y286.length co52) y286 from (zq118)); obtain ⟨ce53, hcl53, hM53, hcc53, hfr53⟩ := Kd.R_elem HX53.out z29 (t292 : Int) (of_decide_eq_true (zq18)) (by have h_ : (t292 : Int) < ((y286.length : Int) : Int) := of_decide_eq_true (zq18); first | exact h_ | (have e_ := (Kd.R_reads' HO288.out).1; omega) | simpa using h_); obtain rfl := k29_openM hM53; have HP53 := Kd.R_seg HX53.out (t292 : Int) (of_decide_eq_true (zq18)) (by have h_ : (t292 : Int) < ((y286.length : Int) : Int) := of_decide_eq_true (zq18); first | exact h_ | (have e_ := (Kd.R_reads' HO288.out).1; omega) | simpa using h_) (seg := [.string ((rd_T29 y286 t292).f0)]) (j := 1) hcl53 hcc53 (show 2 ≤ 3 from by decide) (x' := (⟨(rd_T29 y286 t292).f0, (rd_T29 y286 t292).f0, (rd_T29 y286 t292).f2⟩ : S29)) (k29_mkM _ _ _ (⟨(rd_T29 y286 t292).f0, (rd_T29 y286 t292).f0, (rd_T29 y286 t292).f2⟩ : S29) ) (fun _ hk => hk); have hx53_1 := hcc53 1 _ rfl; (try simp only [show (k29).sz = 3 from rfl, Nat.mul_one, Nat.add_zero] at hx53_1); have hf53_1 := hfr53 1; (try simp only [show (k29).sz = 3 from rfl, Nat.mul_one, Nat.add_zero] at hf53_1); clear hcl53 hcc53 hfr53 hM53) | ((with_reducible refine gate_store (t := 9) (p := 73) rfl ?_); refine store_event (t := 9) (p := 73) (v := ?vo_w54) (w1 := (w51.setCell ⟨go16, (t292 : Int).toNat * 3 + 1, none⟩ (.string ((rd_T29 y286 t292).f0)))) ?hg ?ho ?hn ?hr ?_; (case ho => rfl); (case hg => rfl); (case hn => rfl); (case hr => exact zq3); intro w54 hw; have hg : w51.grownBy w54 (some go16) := (by rw [hw]; exact HP53.2); have hp_ : Kd.R k29 29 w54 w.heap.size (fun _ => True) (.slice (some ⟨go16, 0, none⟩) y286.length co52) y302 := (by rw [hw, Ny302.out]; exact HP53.1); clear HP53; replace HO288 := Aside0.mk (hp_); replace HB := Aside0.mk ((zq119 : Below w.heap.size w w54)); clear hg hw hp_))
  go_ret
  exact ⟨_, zq6, zq118, zq5⟩
 rw [if_neg c47] at H
 have c47b0 : (t293 == 3) = false := beq_eq_false_iff_ne.mpr c47
 have c47b1 : (t293 != 3) = true := bne_iff_ne.mpr c47
 by_cases c55 : t293 = 4
 ·rw [if_pos c55] at H
  have c55b0 : (t293 == 4) = true := beq_iff_eq.mpr c55
  have c55b1 : (t293 != 4) = false := bne_eq_false_iff_eq.mpr c55
  clear c55
  obtain ⟨y303, hy303⟩ : ∃ y_ : List (S29), y_ = (y286.set (t292 : Int).toNat (⟨(⟨#[]⟩ : ByteArray), (rd_T29 y286 t292).f1, (rd_T29 y286 t292).f2⟩ : S29)) := ⟨_, rfl⟩
  replace H : (some y303) = some r := by first | (rw [hy303]; with_reducible exact H) | (have H2_ := (Option.bind_some _ _).symm.trans H; rw [hy303]; with_reducible exact H2_) | (have H2_ := (Option.bind_some _ _).symm.trans H; with_reducible exact H2_) | with_reducible exact H | (rw [hy303]; exact H) | exact H
  have Ny303 := Aside0.mk hy303
  clear hy303
  obtain rfl := Option.some.inj H
  go_enter Tryz.func14, Tryz.ntmps14
  go_wp2_with (first | ((with_reducible refine gate_dst (N := 11) rfl ?_); refine Kd.R_lit k29 _ 29 ?hg (N := 11) ?hd (xs := ([] : List (S29))) (inner := []) (ok := fun _ => True) (okp := fun _ => True) ?hr ?hp (fun _ hk => hk) trivial (Below.refl _ _) (Nat.le_refl _) (by simp) ?_; (case hd => rfl); (case hg => rfl); (case hr => exact zq3); (case hp => exact zq95); intro v284 w57 ho58 hb hg_ hnew_; clear hg_ hnew_; (first | rw [← Ny283.out] at ho58 | (simp only [Int.reduceToNat] at ho58; rw [← Ny283.out] at ho58)); have HO285 := Aside0.mk (Kd.R_lower ho58 (below_size (zq5))); replace HB := Aside0.mk (below_step (zq5) hb); clear hb ho58) | ((with_reducible refine gate_builtin (b := .append) (xs := #[.tmp 11, .tmp 12]) rfl ?_); at_builtin; refine Kd.R_append_rows k29 (w0 := w) w.heap.size rfl (.tmp 11) (.tmp 12) 24 29 (.agg #[(.string ⟨#[]⟩), (.string ⟨#[]⟩), (.int .i64 0)]) 40 rfl Tryz.underlying24 info29 rfl (by decide) (by omega) v284 y283 l0 _ _ _ (fun _ => True) (fun _ => False) rfl rfl ?aO ?aR (fun _ _ h => h) (fun _ h => h.elim) ?aF ?aB ?aS ?aL ?_; (case aR => exact zq28); (case aB => exact zq98); (case aF => exact zq113); (case aO => exact zq114); (case aS => exact zq102); (case aL => exact zq116); intro v287 w59 ho hb hg hat; rw [← Ny286.out] at ho; replace HB := Aside0.mk (hb); have HO288 := Aside0.mk (ho); clear HO285; clear ho hb hg hat; obtain ⟨Ao60, co60, eo60⟩ := Kd.R_slice HO288.out; subst eo60) | ((with_reducible refine gate_callee (f := 33) rfl ?_); refine goesL_ (some 26) rfl rfl Tryz.func33 (by kernel_rfl) rfl #[.int .i64 a3, .int .i64 (y286.length : Int)] rfl (zq7) ?_; (with_reducible refine (dialtoneref12_pick.calls a3 (y286.length : Int) t292 _ A13.out).mono ?_); rintro e w' ⟨rfl, ⟨nd, rfl⟩⟩; refine ⟨_, rfl, ?_⟩; (try (rw [drewN_self w59]; generalize hq_ : World.drewN w59 _ = w59; replace HO288 : Aside0 (Kd.R k29 29 w59 w.heap.size (fun _ => True) (.slice Ao60 y286.length co60) y286) := ⟨zq120⟩; replace HB : Aside0 (Below w.heap.size w w59) := ⟨zq121⟩; clear hq_)); have p16 : 0 ≤ (t292 : Int) := of_decide_eq_true (zq18); have q16 : (t292 : Int) < ((y286.length : Int) : Int) := of_decide_eq_true (zq18); obtain ⟨go16, co16, eo16, gb16, gl16, cl16, HG16⟩ := Kd.R_form HO288.out (by omega); (first | cases eo16 | (injection eo16 with ea_ en_ ec_; (first | subst ea_ | (injection ea_ with ea_; subst ea_)); subst ec_; clear en_)); have GB16 := Aside0.mk gb16; have GG16 := Aside0.mk HG16; clear gb16 gl16 HG16; obtain ⟨ce16, hcl16, hM16, hcc16, hfr16⟩ := Kd.R_elem HO288.out z29 (t292 : Int) p16 q16; obtain rfl := k29_openM hM16; have hx16_0 : w59.cell? ⟨go16, (t292 : Int).toNat * 3, none⟩ = some (.string ((rd_T29 y286 t292).f0)) := hcc16 0 _ rfl; have hx16_1 : w59.cell? ⟨go16, (t292 : Int).toNat * 3 + 1, none⟩ = some (.string ((rd_T29 y286 t292).f1)) := hcc16 1 _ rfl; have hx16_2 : w59.cell? ⟨go16, (t292 : Int).toNat * 3 + 2, none⟩ = some (.int .i64 ((rd_T29 y286 t292).f2)) := hcc16 2 _ rfl; have hf16_0 : w59.frozen? ⟨go16, (t292 : Int).toNat * 3, none⟩ = false := hfr16 0; have hf16_1 : w59.frozen? ⟨go16, (t292 : Int).toNat * 3 + 1, none⟩ = false := hfr16 1; have hf16_2 : w59.frozen? ⟨go16, (t292 : Int).toNat * 3 + 2, none⟩ = false := hfr16 2; clear hcl16 hcc16 hfr16 hM16; replace p16 := eq_true p16; replace q16 := eq_true q16) | ((with_reducible refine gate_callee (f := 33) rfl ?_); refine goesL_ (some 29) rfl rfl Tryz.func33 (by kernel_rfl) rfl #[.int .i64 a1, .int .i64 6] rfl (zq7) ?_; (with_reducible refine (dialtoneref12_pick.calls a1 6 t293 _ A17.out).mono ?_); rintro e w' ⟨rfl, ⟨nd, rfl⟩⟩; refine ⟨_, rfl, ?_⟩; (try (rw [drewN_self w59]; generalize hq_ : World.drewN w59 _ = w59; replace HO288 : Aside0 (Kd.R k29 29 w59 w.heap.size (fun _ => True) (.slice (some ⟨go16, 0, none⟩) y286.length co60) y286) := ⟨zq120⟩; replace HB : Aside0 (Below w.heap.size w w59) := ⟨zq121⟩; clear hq_)); have p56 : 0 ≤ (t292 : Int) := of_decide_eq_true (zq18); have q56 : (t292 : Int) < ((y286.length : Int) : Int) := of_decide_eq_true (zq18); obtain ⟨ce56, hcl56, hM56, hcc56, hfr56⟩ := Kd.R_elem HO288.out z29 (t292 : Int) p56 q56; obtain rfl := k29_openM hM56; have hx56_0 : w59.cell? ⟨go16, (t292 : Int).toNat * 3, none⟩ = some (.string ((rd_T29 y286 t292).f0)) := hcc56 0 _ rfl; have hx56_1 : w59.cell? ⟨go16, (t292 : Int).toNat * 3 + 1, none⟩ = some (.string ((rd_T29 y286 t292).f1)) := hcc56 1 _ rfl; have hx56_2 : w59.cell? ⟨go16, (t292 : Int).toNat * 3 + 2, none⟩ = some (.int .i64 ((rd_T29 y286 t292).f2)) := hcc56 2 _ rfl; have hf56_0 : w59.frozen? ⟨go16, (t292 : Int).toNat * 3, none⟩ = false := hfr56 0; have hf56_1 : w59.frozen? ⟨go16, (t292 : Int).toNat * 3 + 1, none⟩ = false := hfr56 1; have hf56_2 : w59.frozen? ⟨go16, (t292 : Int).toNat * 3 + 2, none⟩ = false := hfr56 2; clear hcl56 hcc56 hfr56 hM56; replace p56 := eq_true p56; replace q56 := eq_true q56; have HX61 := Aside0.mk (show Kd.R k29 29 w59 w.heap.size (fun _ => True) (.slice (some ⟨go16, 0, none⟩) y286.length co60) y286 from (zq118)); obtain ⟨ce61, hcl61, hM61, hcc61, hfr61⟩ := Kd.R_elem HX61.out z29 (t292 : Int) (of_decide_eq_true (zq18)) (by have h_ : (t292 : Int) < ((y286.length : Int) : Int) := of_decide_eq_true (zq18); first | exact h_ | (have e_ := (Kd.R_reads' HO288.out).1; omega) | simpa using h_); obtain rfl := k29_openM hM61; have HP61 := Kd.R_seg HX61.out (t292 : Int) (of_decide_eq_true (zq18)) (by have h_ : (t292 : Int) < ((y286.length : Int) : Int) := of_decide_eq_true (zq18); first | exact h_ | (have e_ := (Kd.R_reads' HO288.out).1; omega) | simpa using h_) (seg := [.string (⟨#[]⟩ : ByteArray)]) (j := 0) hcl61 hcc61 (show 1 ≤ 3 from by decide) (x' := (⟨(⟨#[]⟩ : ByteArray), (rd_T29 y286 t292).f1, (rd_T29 y286 t292).f2⟩ : S29)) (k29_mkM _ _ _ (⟨(⟨#[]⟩ : ByteArray), (rd_T29 y286 t292).f1, (rd_T29 y286 t292).f2⟩ : S29) ) (fun _ hk => hk); have hx61_0 := hcc61 0 _ rfl; (try simp only [show (k29).sz = 3 from rfl, Nat.mul_one, Nat.add_zero] at hx61_0); have hf61_0 := hfr61 0; (try simp only [show (k29).sz = 3 from rfl, Nat.mul_one, Nat.add_zero] at hf61_0); clear hcl61 hcc61 hfr61 hM61) | ((with_reducible refine gate_store (t := 9) (p := 78) rfl ?_); refine store_event (t := 9) (p := 78) (v := ?vo_w62) (w1 := (w59.setCell ⟨go16, (t292 : Int).toNat * 3, none⟩ (.string (⟨#[]⟩ : ByteArray)))) ?hg ?ho ?hn ?hr ?_; (case ho => rfl); (case hg => rfl); (case hn => rfl); (case hr => exact zq3); intro w62 hw; have hg : w59.grownBy w62 (some go16) := (by rw [hw]; exact HP61.2); have hp_ : Kd.R k29 29 w62 w.heap.size (fun _ => True) (.slice (some ⟨go16, 0, none⟩) y286.length co60) y303 := (by rw [hw, Ny303.out]; exact HP61.1); clear HP61; replace HO288 := Aside0.mk (hp_); replace HB := Aside0.mk ((zq119 : Below w.heap.size w w62)); clear hg hw hp_))
  go_ret
  exact ⟨_, zq6, zq118, zq5⟩
 rw [if_neg c55] at H
 have c55b0 : (t293 == 4) = false := beq_eq_false_iff_ne.mpr c55
 have c55b1 : (t293 != 4) = true := bne_iff_ne.mpr c55
 by_cases c63 : 0 < (y286.length : Int)
 rotate_left
 ·rw [if_neg c63] at H
  exact absurd H (by simp)
 rw [if_pos c63] at H
 have c63b0 : decide (0 < (y286.length : Int)) = true := decide_eq_true c63
 have c63b1 : decide (0 < y286.length) = true := decide_eq_true (by omega)
 clear c63
 by_cases c65 : y286.length < 3518437208883
 rotate_left
 ·rw [if_neg c65] at H
  exact absurd H (by simp)
 rw [if_pos c65] at H
 have LMc65 := Aside0.mk c65
 clear c65
 obtain ⟨y305, hy305⟩ : ∃ y_ : List (S29), y_ = (y286 ++ [(⟨(rd_T29 y286 0).f0, (rd_T29 y286 0).f1, (rd_T29 y286 0).f2⟩ : S29)]) := ⟨_, rfl⟩
 replace H : (some y305) = some r := by first | (rw [hy305]; with_reducible exact H) | (have H2_ := (Option.bind_some _ _).symm.trans H; rw [hy305]; with_reducible exact H2_) | (have H2_ := (Option.bind_some _ _).symm.trans H; with_reducible exact H2_) | with_reducible exact H | (rw [hy305]; exact H) | exact H
 have Ny305 := Aside0.mk hy305
 clear hy305
 obtain rfl := Option.some.inj H
 go_enter Tryz.func14, Tryz.ntmps14
 go_wp2_with (first | ((with_reducible refine gate_dst (N := 11) rfl ?_); refine Kd.R_lit k29 _ 29 ?hg (N := 11) ?hd (xs := ([] : List (S29))) (inner := []) (ok := fun _ => True) (okp := fun _ => True) ?hr ?hp (fun _ hk => hk) trivial (Below.refl _ _) (Nat.le_refl _) (by simp) ?_; (case hd => rfl); (case hg => rfl); (case hr => exact zq3); (case hp => exact zq95); intro v284 w66 ho67 hb hg_ hnew_; clear hg_ hnew_; (first | rw [← Ny283.out] at ho67 | (simp only [Int.reduceToNat] at ho67; rw [← Ny283.out] at ho67)); have HO285 := Aside0.mk (Kd.R_lower ho67 (below_size (zq5))); replace HB := Aside0.mk (below_step (zq5) hb); clear hb ho67) | ((with_reducible refine gate_builtin (b := .append) (xs := #[.tmp 11, .tmp 12]) rfl ?_); at_builtin; refine Kd.R_append_rows k29 (w0 := w) w.heap.size rfl (.tmp 11) (.tmp 12) 24 29 (.agg #[(.string ⟨#[]⟩), (.string ⟨#[]⟩), (.int .i64 0)]) 40 rfl Tryz.underlying24 info29 rfl (by decide) (by omega) v284 y283 l0 _ _ _ (fun _ => True) (fun _ => False) rfl rfl ?aO ?aR (fun _ _ h => h) (fun _ h => h.elim) ?aF ?aB ?aS ?aL ?_; (case aR => exact zq28); (case aB => exact zq98); (case aF => exact zq113); (case aO => exact zq114); (case aS => exact zq102); (case aL => exact zq116); intro v287 w68 ho hb hg hat; rw [← Ny286.out] at ho; replace HB := Aside0.mk (hb); have HO288 := Aside0.mk (ho); clear HO285; clear ho hb hg hat; obtain ⟨Ao69, co69, eo69⟩ := Kd.R_slice HO288.out; subst eo69) | ((with_reducible refine gate_callee (f := 33) rfl ?_); refine goesL_ (some 26) rfl rfl Tryz.func33 (by kernel_rfl) rfl #[.int .i64 a3, .int .i64 (y286.length : Int)] rfl (zq7) ?_; (with_reducible refine (dialtoneref12_pick.calls a3 (y286.length : Int) t292 _ A13.out).mono ?_); rintro e w' ⟨rfl, ⟨nd, rfl⟩⟩; refine ⟨_, rfl, ?_⟩; have p16 : 0 ≤ (t292 : Int) := of_decide_eq_true (zq18); have q16 : (t292 : Int) < ((y286.length : Int) : Int) := of_decide_eq_true (zq18); obtain ⟨go16, co16, eo16, gb16, gl16, cl16, HG16⟩ := Kd.R_form HO288.out (by omega); (first | cases eo16 | (injection eo16 with ea_ en_ ec_; (first | subst ea_ | (injection ea_ with ea_; subst ea_)); subst ec_; clear en_)); have GB16 := Aside0.mk gb16; have GG16 := Aside0.mk HG16; clear gb16 gl16 HG16; obtain ⟨ce16, hcl16, hM16, hcc16, hfr16⟩ := Kd.R_elem HO288.out z29 (t292 : Int) p16 q16; obtain rfl := k29_openM hM16; have hx16_0 : w68.cell? ⟨go16, (t292 : Int).toNat * 3, none⟩ = some (.string ((rd_T29 y286 t292).f0)) := hcc16 0 _ rfl; have hx16_1 : w68.cell? ⟨go16, (t292 : Int).toNat * 3 + 1, none⟩ = some (.string ((rd_T29 y286 t292).f1)) := hcc16 1 _ rfl; have hx16_2 : w68.cell? ⟨go16, (t292 : Int).toNat * 3 + 2, none⟩ = some (.int .i64 ((rd_T29 y286 t292).f2)) := hcc16 2 _ rfl; have hf16_0 : w68.frozen? ⟨go16, (t292 : Int).toNat * 3, none⟩ = false := hfr16 0; have hf16_1 : w68.frozen? ⟨go16, (t292 : Int).toNat * 3 + 1, none⟩ = false := hfr16 1; have hf16_2 : w68.frozen? ⟨go16, (t292 : Int).toNat * 3 + 2, none⟩ = false := hfr16 2; clear hcl16 hcc16 hfr16 hM16; replace p16 := eq_true p16; replace q16 := eq_true q16) | ((with_reducible refine gate_callee (f := 33) rfl ?_); refine goesL_ (some 29) rfl rfl Tryz.func33 (by kernel_rfl) rfl #[.int .i64 a1, .int .i64 6] rfl (zq7) ?_; (with_reducible refine (dialtoneref12_pick.calls a1 6 t293 _ A17.out).mono ?_); rintro e w' ⟨rfl, ⟨nd, rfl⟩⟩; refine ⟨_, rfl, ?_⟩; have p64 : 0 ≤ (0 : Int) := (by omega); have q64 : (0 : Int) < ((y286.length : Int) : Int) := of_decide_eq_true (zq18); have qi64 : (0 < y286.length) = True := eq_true (by omega); obtain ⟨ce64, hcl64, hM64, hcc64, hfr64⟩ := Kd.R_elem HO288.out z29 (0 : Int) p64 q64; obtain rfl := k29_openM hM64; have hx64_0 : w68.cell? ⟨go16, (0 : Int).toNat * 3, none⟩ = some (.string ((rd_T29 y286 0).f0)) := hcc64 0 _ rfl; have hx64_1 : w68.cell? ⟨go16, (0 : Int).toNat * 3 + 1, none⟩ = some (.string ((rd_T29 y286 0).f1)) := hcc64 1 _ rfl; have hx64_2 : w68.cell? ⟨go16, (0 : Int).toNat * 3 + 2, none⟩ = some (.int .i64 ((rd_T29 y286 0).f2)) := hcc64 2 _ rfl; have hf64_0 : w68.frozen? ⟨go16, (0 : Int).toNat * 3, none⟩ = false := hfr64 0; have hf64_1 : w68.frozen? ⟨go16, (0 : Int).toNat * 3 + 1, none⟩ = false := hfr64 1; have hf64_2 : w68.frozen? ⟨go16, (0 : Int).toNat * 3 + 2, none⟩ = false := hfr64 2; clear hcl64 hcc64 hfr64 hM64; (try rw [show ((0 : Int)).toNat = 0 from rfl] at hx64_0); (try simp only [Nat.reduceMul, Nat.zero_mul, Nat.zero_add, Nat.reduceAdd] at hx64_0); (try rw [show ((0 : Int)).toNat = 0 from rfl] at hf64_0); (try simp only [Nat.reduceMul, Nat.zero_mul, Nat.zero_add, Nat.reduceAdd] at hf64_0); (try rw [show ((0 : Int)).toNat = 0 from rfl] at hx64_1); (try simp only [Nat.reduceMul, Nat.zero_mul, Nat.zero_add, Nat.reduceAdd] at hx64_1); (try rw [show ((0 : Int)).toNat = 0 from rfl] at hf64_1); (try simp only [Nat.reduceMul, Nat.zero_mul, Nat.zero_add, Nat.reduceAdd] at hf64_1); (try rw [show ((0 : Int)).toNat = 0 from rfl] at hx64_2); (try simp only [Nat.reduceMul, Nat.zero_mul, Nat.zero_add, Nat.reduceAdd] at hx64_2); (try rw [show ((0 : Int)).toNat = 0 from rfl] at hf64_2); (try simp only [Nat.reduceMul, Nat.zero_mul, Nat.zero_add, Nat.reduceAdd] at hf64_2); replace p64 := eq_true p64; replace q64 := eq_true q64; have p304 : 0 ≤ (0 : Int) := (by omega); have q304 : 0 < (y286.length : Int) := of_decide_eq_true (zq18); obtain ⟨ad304, e304, hx304_0, hx304_1, hx304_2⟩ := at_T29 (Kd.R_reads' HO288.out).2.2 0 p304 q304; obtain rfl : (⟨go16, 0, none⟩ : Addr) = ad304 := (by injection e304); (first | simp only [add_plain] at hx304_0 | simp only [add_at] at hx304_0 | simp only [Addr.add, Nat.zero_add] at hx304_0 | skip); (first | simp only [add_plain] at hx304_1 | simp only [add_at] at hx304_1 | simp only [Addr.add, Nat.zero_add] at hx304_1 | skip); (first | simp only [add_plain] at hx304_2 | simp only [add_at] at hx304_2 | simp only [Addr.add, Nat.zero_add] at hx304_2 | skip); have qi304 : (0 < y286.length) = True := eq_true (by omega); (try rw [show ((0 : Int)).toNat = 0 from rfl] at hx304_0); (try rw [show 0 * 3 = 0 from rfl] at hx304_0); (try rw [Addr.add_zero'] at hx304_0); (try rw [show ((0 : Int)).toNat = 0 from rfl] at hx304_1); (try rw [show 0 * 3 = 0 from rfl] at hx304_1); (try rw [Addr.add_zero'] at hx304_1); (try rw [show ((0 : Int)).toNat = 0 from rfl] at hx304_2); (try rw [show 0 * 3 = 0 from rfl] at hx304_2); (try rw [Addr.add_zero'] at hx304_2); replace p304 := eq_true p304; replace q304 := eq_true q304) | ((with_reducible refine gate_builtin (b := .append) (xs := #[.tmp 30, .tmp 34]) rfl ?_); at_builtin; refine Kd.R_append k29 (w0 := w) w.heap.size rfl (.tmp 30) (.tmp 34) 24 29 (.agg #[(.string ⟨#[]⟩), (.string ⟨#[]⟩), (.int .i64 0)]) 40 rfl Tryz.underlying24 info29 rfl (by decide) (by omega) (.slice (some ⟨go16, 0, none⟩) y286.length co69) y286 (⟨(rd_T29 y286 0).f0, (rd_T29 y286 0).f1, (rd_T29 y286 0).f2⟩ : S29) [.string ((rd_T29 y286 0).f0), .string ((rd_T29 y286 0).f1), .int .i64 ((rd_T29 y286 0).f2)] (fun _ => True) (fun _ => False) rfl rfl ?aP (fun _ hk => hk.elim) ?aF ?aO ?aB ?aS ?aL ?_; (case aP => exact k29_mkM _ _ _ (⟨(rd_T29 y286 0).f0, (rd_T29 y286 0).f1, (rd_T29 y286 0).f2⟩ : S29)); (case aB => exact zq98); (case aF => exact zq113); (case aO => exact zq117); (case aS => exact zq102); (case aL => have := LMc65.out; omega); intro v306 w70 ho hb hg hat; rw [← Ny305.out] at ho; replace HB := Aside0.mk (hb); have HO307 := Aside0.mk (ho); clear HO288; clear ho hb hg hat))
 go_ret
 exact ⟨_, zq6, by (with_reducible repeat (first | apply Kd.R_alloc | apply Kd.R_drewN | apply Kd.R_drew)); exact HO307.out, zq5⟩
def dialtonelaw12_pick.f (a0 : Int) (a1 : Int) : Option (Int) := if a0 < 0 then (if a1 = 0 then (none) else (some (Int.tmod (wrap64 (-(wrap64 (a0 + 1)))) a1))) else (if a1 = 0 then (none) else (some (Int.tmod a0 a1)))
set_option maxHeartbeats 8000000 in
set_option maxRecDepth 100000 in
theorem dialtonelaw12_pick.calls (a0 : Int) (a1 : Int) (r : Int) (w : World) (h : dialtonelaw12_pick.f a0 a1 = some r) :
 Calls Tryz.prog 16 #[.int .i64 a0, .int .i64 a1] w fun e w' => e = .returned (.int .i64 r) ∧ Drawn0 w w' := by
 have H : (if a0 < 0 then (if a1 = 0 then (none) else (some (Int.tmod (wrap64 (-(wrap64 (a0 + 1)))) a1))) else (if a1 = 0 then (none) else (some (Int.tmod a0 a1)))) = some r := h
 clear h
 by_cases c3 : a0 < 0
 ·rw [if_pos c3] at H
  have c3b0 : decide (a0 < 0) = true := decide_eq_true c3
  clear c3
  by_cases c4 : a1 = 0
  ·rw [if_pos c4] at H
   exact absurd H (by simp)
  rw [if_neg c4] at H
  have c4b0 : (a1 == 0) = false := beq_eq_false_iff_ne.mpr c4
  have c4b1 : (a1 != 0) = true := bne_iff_ne.mpr c4
  obtain rfl := Option.some.inj H
  go_enter Tryz.func16, Tryz.ntmps16
  go_wp2
  go_ret
  exact ⟨zq1, zq2⟩
 rw [if_neg c3] at H
 have c3b0 : decide (a0 < 0) = false := decide_eq_false c3
 clear c3
 by_cases c5 : a1 = 0
 ·rw [if_pos c5] at H
  exact absurd H (by simp)
 rw [if_neg c5] at H
 have c5b0 : (a1 == 0) = false := beq_eq_false_iff_ne.mpr c5
 have c5b1 : (a1 != 0) = true := bne_iff_ne.mpr c5
 obtain rfl := Option.some.inj H
 go_enter Tryz.func16, Tryz.ntmps16
 go_wp2
 go_ret
 exact ⟨zq1, zq2⟩
def dialtonelaw12_text.l0 : Nat → List Int → ByteArray → Int → Option (ByteArray)
 | 0, _, _, _ => none
 | k + 1, x0, x3, x4 => if x4 < (x0.length : Int) then (if x4 < 17 then (if 0 ≤ x4 then ((dialtonelaw12_pick.f (rd x0 x4) 10).bind fun t309 => ((some (([(wrap64 (48 + t309)) % 256] : List Int) : List Int)).bind fun y310 => (if x3.size + (strOfNums y310).size ≤ 9223372036854775807 then (dialtonelaw12_text.l0 k x0 (x3 ++ (strOfNums y310)) (wrap64 (x4 + 1))) else (none)))) else (none)) else (some x3)) else (some x3)
def dialtonelaw12_text.f (k : Nat) (l0 : List Int) : Option (ByteArray) := dialtonelaw12_text.l0 k l0 (⟨#[]⟩ : ByteArray) 0
set_option maxHeartbeats 8000000 in
set_option maxRecDepth 100000 in
theorem dialtonelaw12_text.calls (k : Nat) (A0 : Option Addr) (c0 : Nat) (l0 : List Int) (r : ByteArray) (w : World) (hr0 : Kd.C (Kd.int .i64) w A0 l0.length l0) (hc0 : l0.length ≤ c0) (h : dialtonelaw12_text.f k l0 = some r) :
 Calls Tryz.prog 15 #[.slice A0 l0.length c0] w fun e w' => e = .returned (.string r) ∧ Below w.heap.size w w' := by
 have HR0 := Aside0.mk hr0
 have HC0 := Aside0.mk hc0
 clear hr0 hc0
 have HB := Aside0.mk (Below.refl w.heap.size w)
 have H : (dialtonelaw12_text.l0 k l0 (⟨#[]⟩ : ByteArray) 0) = some r := h
 clear h
 have H' := Aside0.mk H
 clear H
 go_enter Tryz.func15, Tryz.ntmps15
 go_wp2
 go_loopg [3, 4] k (fun kq v3 v4 w' => ∃ (x3_1 : ByteArray) (x4_1 : Int), v3 = .string x3_1 ∧ v4 = .int .i64 x4_1 ∧ Aside0 (dialtonelaw12_text.l0 kq l0 x3_1 x4_1 = some r) ∧ Aside0 (kq ≤ k) ∧ Aside0 (Below w.heap.size w w'))
 case atStart => exact ⟨((⟨#[]⟩ : ByteArray)), (0), (zq1), (zq1), H', ⟨Nat.le_refl _⟩, ⟨zq5⟩⟩
 case round =>
  clear H'
  try clear c1
  obtain ⟨x3_1, x4_1, rfl, rfl, HA, HK1, HB⟩ := hrel
  cases gk with
  | zero => exact absurd HA.out (by simp [dialtonelaw12_text.l0])
  | succ k1 =>
   have H := HA.out
   clear HA
   simp only [dialtonelaw12_text.l0] at H
   by_cases c2 : x4_1 < (l0.length : Int)
   rotate_left
   ·rw [if_neg c2] at H
    have c2b0 : decide (x4_1 < (l0.length : Int)) = false := decide_eq_false c2
    clear c2
    obtain rfl := Option.some.inj H
    go_wp2
    go_ret
    exact ⟨zq6, zq5⟩
   rw [if_pos c2] at H
   have c2b0 : decide (x4_1 < (l0.length : Int)) = true := decide_eq_true c2
   clear c2
   by_cases c3 : x4_1 < 17
   rotate_left
   ·rw [if_neg c3] at H
    have c3b0 : decide (x4_1 < 17) = false := decide_eq_false c3
    clear c3
    obtain rfl := Option.some.inj H
    go_wp2
    go_ret
    exact ⟨zq6, zq5⟩
   rw [if_pos c3] at H
   have c3b0 : decide (x4_1 < 17) = true := decide_eq_true c3
   clear c3
   by_cases c4 : 0 ≤ x4_1
   rotate_left
   ·rw [if_neg c4] at H
    exact absurd H (by simp)
   rw [if_pos c4] at H
   have c4b0 : decide (0 ≤ x4_1) = true := decide_eq_true c4
   clear c4
   replace H := Option.bind_eq_some_iff.mp H
   obtain ⟨t309, A50, H⟩ := H
   try dsimp only at H
   have A5 := Aside0.mk A50
   clear A50
   obtain ⟨y310, hy310⟩ : ∃ y_ : List Int, y_ = (([(wrap64 (48 + t309)) % 256] : List Int)) := ⟨_, rfl⟩
   replace H : (if x3_1.size + (strOfNums y310).size ≤ 9223372036854775807 then (dialtonelaw12_text.l0 k1 l0 (x3_1 ++ (strOfNums y310)) (wrap64 (x4_1 + 1))) else (none)) = some r := by first | (rw [hy310]; with_reducible exact H) | (have H2_ := (Option.bind_some _ _).symm.trans H; rw [hy310]; with_reducible exact H2_) | (have H2_ := (Option.bind_some _ _).symm.trans H; with_reducible exact H2_) | with_reducible exact H | (rw [hy310]; exact H) | exact H
   have Ny310 := Aside0.mk hy310
   clear hy310
   by_cases c6 : x3_1.size + (strOfNums y310).size ≤ 9223372036854775807
   rotate_left
   ·rw [if_neg c6] at H
    exact absurd H (by simp)
   rw [if_pos c6] at H
   have c6b0 := eq_true c6
   have c6b1 : decide (x3_1.size + (strOfNums y310).size ≤ 9223372036854775807) = true := decide_eq_true c6
   try have c6b2 : (9223372036854775807 < x3_1.size + (strOfNums y310).size) = False := eq_false (Nat.not_lt.2 c6)
   have H' := Aside0.mk H
   clear H
   have p308 : 0 ≤ (x4_1 : Int) := of_decide_eq_true (zq18)
   have q308 : x4_1 < (l0.length : Int) := of_decide_eq_true (zq18)
   obtain ⟨ad308, e308, hx308_0⟩ := Kd.at_int HR0.out x4_1 p308 q308
   cases e308
   replace hx308_0 := (HB.out.cell (World.block_lt_of_cell? w _ hx308_0)).trans hx308_0
   replace p308 := eq_true p308
   replace q308 := eq_true q308
   go_wp2_with (first | ((with_reducible refine gate_callee (f := 16) rfl ?_); refine goesL_ (some 20) rfl rfl Tryz.func16 (by kernel_rfl) rfl #[.int .i64 (rd l0 x4_1), .int .i64 10] rfl (zq7) ?_; (with_reducible refine (dialtonelaw12_pick.calls (rd l0 x4_1) 10 t309 _ A5.out).mono ?_); rintro e w' ⟨rfl, ⟨nd, rfl⟩⟩; refine ⟨_, rfl, ?_⟩) | ((with_reducible refine gate_dst (N := 23) rfl ?_); refine Kd.R_lit (Kd.int .u8) _ 5 ?hg (N := 23) ?hd (xs := ([(wrap64 (48 + t309)) % 256] : List Int)) (inner := [.int .u8 ((wrap64 (48 + t309)) % 256)]) (ok := fun _ => True) (okp := fun _ => True) ?hr ?hp (fun _ hk => hk) trivial (Below.refl _ _) (Nat.le_refl _) (by simp) ?_; (case hd => rfl); (case hg => rfl); (case hr => exact zq3); (case hp => exact (Reps.one (show Kd.M (Kd.int .u8) _ _ _ ((wrap64 (48 + t309)) % 256) [.int .u8 ((wrap64 (48 + t309)) % 256)] from rfl) (Reps.none _ _))); intro v311 w7 ho8 hb hg_ hnew_; clear hg_ hnew_; (first | rw [← Ny310.out] at ho8 | (simp only [Int.reduceToNat] at ho8; rw [← Ny310.out] at ho8)); have HO312 := Aside0.mk (Kd.R_lower ho8 (below_size (zq5))); replace HB := Aside0.mk (below_step (zq5) hb); clear hb ho8; have hcv9 := own_string (P := Tryz.prog) Tryz.underlying65 Tryz.underlying5 Tryz.underlying9 (Kd.own_of_R HO312.out)))
   go_roundg k1
   case measure => have := HK1.out; omega
   case rel => exact ⟨(x3_1 ++ (strOfNums y310)), (wrap64 (x4_1 + 1)), (zq1), (zq1), H', ⟨zq32⟩, ⟨zq5⟩⟩
def dialtoneref12_Eight.l0 : Nat → Int → ByteArray → Int → Option (ByteArray)
 | 0, _, _, _ => none
 | k + 1, x0, x3, x4 => if x4 < 8 then ((some (([(wrap64 (48 + (Int.tmod x0 10))) % 256] : List Int) : List Int)).bind fun y313 => (if (strOfNums y313).size + x3.size ≤ 9223372036854775807 then (dialtoneref12_Eight.l0 k (wrap64 (Int.tdiv x0 10)) ((strOfNums y313) ++ x3) (wrap64 (x4 + 1))) else (none))) else (some x3)
def dialtoneref12_Eight.f (k : Nat) (a0 : Int) : Option (ByteArray) := dialtoneref12_Eight.l0 k a0 (⟨#[]⟩ : ByteArray) 0
set_option maxHeartbeats 8000000 in
set_option maxRecDepth 100000 in
theorem dialtoneref12_Eight.calls (k : Nat) (a0 : Int) (r : ByteArray) (w : World) (h : dialtoneref12_Eight.f k a0 = some r) :
 Calls Tryz.prog 43 #[.int .i64 a0] w fun e w' => e = .returned (.string r) ∧ Below w.heap.size w w' := by
 have HB := Aside0.mk (Below.refl w.heap.size w)
 have H : (dialtoneref12_Eight.l0 k a0 (⟨#[]⟩ : ByteArray) 0) = some r := h
 clear h
 have H' := Aside0.mk H
 clear H
 go_enter Tryz.func43, Tryz.ntmps43
 go_wp2
 go_loopg [0, 3, 4] k (fun kq v0 v3 v4 w' => ∃ (x0_1 : Int) (x3_1 : ByteArray) (x4_1 : Int), v0 = .int .i64 x0_1 ∧ v3 = .string x3_1 ∧ v4 = .int .i64 x4_1 ∧ Aside0 (dialtoneref12_Eight.l0 kq x0_1 x3_1 x4_1 = some r) ∧ Aside0 (kq ≤ k) ∧ Aside0 (Below w.heap.size w w'))
 case atStart => exact ⟨(a0), ((⟨#[]⟩ : ByteArray)), (0), (zq1), (zq1), (zq1), H', ⟨Nat.le_refl _⟩, ⟨zq5⟩⟩
 case round =>
  clear H'
  obtain ⟨x0_1, x3_1, x4_1, rfl, rfl, rfl, HA, HK1, HB⟩ := hrel
  cases gk with
  | zero => exact absurd HA.out (by simp [dialtoneref12_Eight.l0])
  | succ k1 =>
   have H := HA.out
   clear HA
   simp only [dialtoneref12_Eight.l0] at H
   by_cases c2 : x4_1 < 8
   rotate_left
   ·rw [if_neg c2] at H
    have c2b0 : decide (x4_1 < 8) = false := decide_eq_false c2
    clear c2
    obtain rfl := Option.some.inj H
    go_wp2
    go_ret
    exact ⟨zq6, zq5⟩
   rw [if_pos c2] at H
   have c2b0 : decide (x4_1 < 8) = true := decide_eq_true c2
   clear c2
   obtain ⟨y313, hy313⟩ : ∃ y_ : List Int, y_ = (([(wrap64 (48 + (Int.tmod x0_1 10))) % 256] : List Int)) := ⟨_, rfl⟩
   replace H : (if (strOfNums y313).size + x3_1.size ≤ 9223372036854775807 then (dialtoneref12_Eight.l0 k1 (wrap64 (Int.tdiv x0_1 10)) ((strOfNums y313) ++ x3_1) (wrap64 (x4_1 + 1))) else (none)) = some r := by first | (rw [hy313]; with_reducible exact H) | (have H2_ := (Option.bind_some _ _).symm.trans H; rw [hy313]; with_reducible exact H2_) | (have H2_ := (Option.bind_some _ _).symm.trans H; with_reducible exact H2_) | with_reducible exact H | (rw [hy313]; exact H) | exact H
   have Ny313 := Aside0.mk hy313
   clear hy313
   by_cases c3 : (strOfNums y313).size + x3_1.size ≤ 9223372036854775807
   rotate_left
   ·rw [if_neg c3] at H
    exact absurd H (by simp)
   rw [if_pos c3] at H
   have c3b0 := eq_true c3
   have c3b1 : decide ((strOfNums y313).size + x3_1.size ≤ 9223372036854775807) = true := decide_eq_true c3
   try have c3b2 : (9223372036854775807 < (strOfNums y313).size + x3_1.size) = False := eq_false (Nat.not_lt.2 c3)
   have H' := Aside0.mk H
   clear H
   go_wp2_with (first | ((with_reducible refine gate_dst (N := 13) rfl ?_); refine Kd.R_lit (Kd.int .u8) _ 5 ?hg (N := 13) ?hd (xs := ([(wrap64 (48 + (Int.tmod x0_1 10))) % 256] : List Int)) (inner := [.int .u8 ((wrap64 (48 + (Int.tmod x0_1 10))) % 256)]) (ok := fun _ => True) (okp := fun _ => True) ?hr ?hp (fun _ hk => hk) trivial (Below.refl _ _) (Nat.le_refl _) (by simp) ?_; (case hd => rfl); (case hg => rfl); (case hr => exact zq3); (case hp => exact zq81); intro v314 w4 ho5 hb hg_ hnew_; clear hg_ hnew_; (first | rw [← Ny313.out] at ho5 | (simp only [Int.reduceToNat] at ho5; rw [← Ny313.out] at ho5)); have HO315 := Aside0.mk (Kd.R_lower ho5 (below_size (zq5))); replace HB := Aside0.mk (below_step (zq5) hb); clear hb ho5; have hcv6 := own_string (P := Tryz.prog) Tryz.underlying65 Tryz.underlying5 Tryz.underlying9 (Kd.own_of_R HO315.out)))
   go_roundg k1
   case measure => have := HK1.out; omega
   case rel => exact ⟨(wrap64 (Int.tdiv x0_1 10)), ((strOfNums y313) ++ x3_1), (wrap64 (x4_1 + 1)), (zq1), (zq1), (zq1), H', ⟨zq32⟩, ⟨zq5⟩⟩
end Go.Proofs.YtlmfoblgheepoaaGreatDoor.Pl
end
section
open Go.Proofs.YtlmfoblgheepoaaGreatDoor.Z
namespace Go.Proofs.YtlmfoblgheepoaaGreatDoor.Pl
open Go.RowKit Go.Proofs.YtlmfoblgheepoaaGreatDoorW.PrintWords Go.Proofs.YtlmfoblgheepoaaGreatDoorW.PrintLast Go.Proofs.YtlmfoblgheepoaaGreatDoorW.PrintMore
attribute [local go_sem] max2_int min2_int max_two min_two max_three min_three max_four min_four
set_option linter.unusedVariables false
set_option linter.unusedSimpArgs false
mutual
def dialtoneref12_Code.j0 : Nat → List (S29) → Int → Bool → Option (Int)
 | 0, _, _, _ => none
 | k + 1, x0, x1, x11 => if x11 = true then (some (-1)) else (dialtoneref12_Code.l0 k x0 x1 0)
def dialtoneref12_Code.l0 : Nat → List (S29) → Int → Int → Option (Int)
 | 0, _, _, _ => none
 | k + 1, x0, x1, x5 => if x5 < (x0.length : Int) then (if 0 ≤ x5 then ((dialtoneref12_Eight.f k x1).bind fun t317 => ((dialtoneref12_begins.f ((rd_T29 x0 x5).f1) t317).bind fun t318 => (if t318 = true then (some x5) else (dialtoneref12_Code.l0 k x0 x1 (wrap64 (x5 + 1)))))) else (none)) else (some (-1))
end
def dialtoneref12_Code.f (k : Nat) (l0 : List (S29)) (a1 : Int) : Option (Int) := if a1 < 0 then (dialtoneref12_Code.j0 k l0 a1 true) else (dialtoneref12_Code.j0 k l0 a1 (decide (a1 > 99999999)))
def dialtoneref12_Code.T6 : Bool × List (List Nat × List Nat) := (true, [([], []), ([], []), ([0, 1], [0, 1]), ([2], [2]), ([3], [3]), ([], []), ([5], [5]), ([4, 6, 6], [4, 6])])
def dialtoneref12_Code.B6 : List Nat := [0, 0, 3, 7, 15, 0, 32, 127]
theorem dialtoneref12_Code.tab6 : rtab .any (opsOf Tryz.f42 6) = dialtoneref12_Code.T6 := by kernel_rfl
theorem dialtoneref12_Code.bits6 : waitsOk dialtoneref12_Code.T6.2 dialtoneref12_Code.B6 = true := by kernel_rfl
set_option maxHeartbeats 8000000 in
set_option maxRecDepth 100000 in
theorem dialtoneref12_Code.calls (k : Nat) (A0 : Option Addr) (c0 : Nat) (l0 : List (S29)) (a1 : Int) (r : Int) (w : World) (hr0 : Kd.C k29 w A0 l0.length l0) (hc0 : l0.length ≤ c0) (h : dialtoneref12_Code.f k l0 a1 = some r) :
 Calls Tryz.prog 42 #[.slice A0 l0.length c0, .int .i64 a1] w fun e w' => e = .returned (.int .i64 r) ∧ Below w.heap.size w w' := by
 have HR0 := Aside0.mk hr0
 have HC0 := Aside0.mk hc0
 clear hr0 hc0
 have HB := Aside0.mk (Below.refl w.heap.size w)
 have H : (if a1 < 0 then (dialtoneref12_Code.j0 k l0 a1 true) else (dialtoneref12_Code.j0 k l0 a1 (decide (a1 > 99999999)))) = some r := h
 clear h
 have HC3 := Aside0.mk H
 clear H
 go_enter Tryz.func42, Tryz.ntmps42
 go_upto_region 1 with (fail)
 go_cut [11] (fun v11 wc => ∃ (kq : Nat) (x11_2 : Bool), v11 = .bool x11_2 ∧ Aside0 (dialtoneref12_Code.j0 kq l0 a1 x11_2 = some r) ∧ Aside0 (kq ≤ k) ∧ Aside0 (Below w.heap.size w wc))
 case first =>
  have H := HC3.out
  clear HC3
  by_cases c4 : a1 < 0
  ·rw [if_pos c4] at H
   have c4b0 : decide (a1 < 0) = true := decide_eq_true c4
   clear c4
   (first | rw [c4b0] | (simp only [i64_w, i32_w]; rw [c4b0]) | skip)
   have H' := Aside0.mk H
   clear H
   go_wp2
   go_meet
   case rel => exact ⟨_, (true), (zq1), H', ⟨zq10⟩, ⟨zq5⟩⟩
  rw [if_neg c4] at H
  have c4b0 : decide (a1 < 0) = false := decide_eq_false c4
  clear c4
  (first | rw [c4b0] | (simp only [i64_w, i32_w]; rw [c4b0]) | skip)
  have H' := Aside0.mk H
  clear H
  go_wp2
  go_meet
  case rel => exact ⟨_, (decide (a1 > 99999999)), (zq1), H', ⟨zq10⟩, ⟨zq5⟩⟩
 case rest =>
  clear HC3
  try clear p2
  try clear c4
  try clear c4b0
  obtain ⟨kq, x11_2, rfl, HA, HJ2, HB⟩ := hcut
  cases kq with
  | zero => exact absurd HA.out (by simp [dialtoneref12_Code.j0])
  | succ kj2 =>
   have H := HA.out
   clear HA
   simp only [dialtoneref12_Code.j0] at H
   by_cases c5 : x11_2 = true
   ·subst c5
    rw [if_pos rfl] at H
    obtain rfl := Option.some.inj H
    go_wp2
    go_ret
    exact ⟨zq6, zq5⟩
   replace c5 := Bool.eq_false_iff.mpr c5
   subst c5
   rw [if_neg (show ¬ (false = true) by decide)] at H
   have H' := Aside0.mk H
   clear H
   go_wp2
   go_loopg [5] kj2 (fun kq v5 w' => ∃ (x5_2 : Int), v5 = .int .i64 x5_2 ∧ Aside0 (dialtoneref12_Code.l0 kq l0 a1 x5_2 = some r) ∧ Aside0 (kq ≤ kj2) ∧ Aside0 (Below w.heap.size w w'))
   case atStart => exact ⟨(0), (zq1), H', ⟨Nat.le_refl _⟩, ⟨zq5⟩⟩
   case round =>
    clear H'
    try clear p2
    try clear c4
    try clear c4b0
    try clear c5
    try clear p2
    obtain ⟨x5_2, rfl, HA, HK2, HB⟩ := hrel
    cases gk with
    | zero => exact absurd HA.out (by simp [dialtoneref12_Code.l0])
    | succ k2 =>
     have H := HA.out
     clear HA
     simp only [dialtoneref12_Code.l0] at H
     by_cases c6 : x5_2 < (l0.length : Int)
     rotate_left
     ·rw [if_neg c6] at H
      have c6b0 : decide (x5_2 < (l0.length : Int)) = false := decide_eq_false c6
      clear c6
      obtain rfl := Option.some.inj H
      go_wp2
      go_ret
      exact ⟨zq6, zq5⟩
     rw [if_pos c6] at H
     have c6b0 : decide (x5_2 < (l0.length : Int)) = true := decide_eq_true c6
     clear c6
     by_cases c7 : 0 ≤ x5_2
     rotate_left
     ·rw [if_neg c7] at H
      exact absurd H (by simp)
     rw [if_pos c7] at H
     have c7b0 : decide (0 ≤ x5_2) = true := decide_eq_true c7
     clear c7
     replace H := Option.bind_eq_some_iff.mp H
     obtain ⟨t317, A80, H⟩ := H
     try dsimp only at H
     have A8 := Aside0.mk A80
     clear A80
     replace H := Option.bind_eq_some_iff.mp H
     obtain ⟨t318, A90, H⟩ := H
     try dsimp only at H
     have A9 := Aside0.mk A90
     clear A90
     by_cases c10 : t318 = true
     ·subst c10
      rw [if_pos rfl] at H
      obtain rfl := Option.some.inj H
      try go_wp2
      replace HB := Aside0.mk (below_drew1 HB.out)
      have p316 : 0 ≤ (x5_2 : Int) := of_decide_eq_true (zq18)
      have q316 : x5_2 < (l0.length : Int) := of_decide_eq_true (zq18)
      obtain ⟨ad316, e316, hx316_0, hx316_1, hx316_2⟩ := at_T29 HR0.out x5_2 p316 q316
      have hw316_2 := hx316_2
      have hw316_1 := hx316_1
      have hw316_0 := hx316_0
      cases e316
      replace hx316_0 := (HB.out.cell (World.block_lt_of_cell? w _ hx316_0)).trans hx316_0
      replace hx316_1 := (HB.out.cell (World.block_lt_of_cell? w _ hx316_1)).trans hx316_1
      replace hx316_2 := (HB.out.cell (World.block_lt_of_cell? w _ hx316_2)).trans hx316_2
      replace p316 := eq_true p316
      replace q316 := eq_true q316
      refine start_ (n := 8) (S := fun w' => w'.cell? (ad316.add ((x5_2).toNat * 3)) = some (.string ((rd_T29 l0 x5_2).f0)) ∧ w'.cell? ⟨(ad316.add ((x5_2).toNat * 3)).block, (ad316.add ((x5_2).toNat * 3)).off + 1, none⟩ = some (.string ((rd_T29 l0 x5_2).f1)) ∧ w'.cell? ⟨(ad316.add ((x5_2).toNat * 3)).block, (ad316.add ((x5_2).toNat * 3)).off + 2, none⟩ = some (.int .i64 ((rd_T29 l0 x5_2).f2))) (ds := []) (bm 8 0) (by kernel_rfl) rfl rfl ⟨((HB.out.cell (World.block_lt_of_cell? w _ hw316_0)).trans hw316_0), ((HB.out.cell (World.block_lt_of_cell? w _ hw316_1)).trans hw316_1), ((HB.out.cell (World.block_lt_of_cell? w _ hw316_2)).trans hw316_2)⟩ (fun hHeld => ?_); refine with_tabW dialtoneref12_Code.tab6 dialtoneref12_Code.bits6 (fun HT_ HW_ => ?_)
      generalize wr.drew = w11 at HB hx316_0 hx316_1 hx316_2 hHeld ⊢
      refine pz 0 (some 18) (bm 8 1) HT_ ?_
      refine pz 1 (some 19) (bm 8 3) HT_ ?_
      refine pz 2 (some 20) (bm 8 7) HT_ ?_
      refine pz 3 (some 21) (bm 8 15) HT_ ?_
      refine pz 5 (some 23) (bm 8 47) HT_ ?_
      refine tz 4 (some 22) (bm 8 63) HT_ HW_ hHeld ?_
      refine one_ (i := 6) (N := some 24) (bm 8 127) rfl rfl (one_of HT_.out (by kernel_rfl)) (by decide) (fun K hK => ?_)
      refine goes_ Tryz.func43 (by kernel_rfl) rfl #[.int .i64 a1] (by rfl) rfl rfl (zq7) ?_
      with_reducible refine (dialtoneref12_Eight.calls k2 a1 t317 _ A8.out).mono ?_
      rintro e w12 ⟨rfl, hb⟩
      refine ⟨_, rfl, ?_⟩
      replace HB := Aside0.mk (below_step (zq5) hb)
      (try clear hb)
      (try clear hb2)
      (try clear hk)
      (try clear hi)
      refine hK.out _ _ ⟨((HB.out.cell (World.block_lt_of_cell? w _ hw316_0)).trans hw316_0), ((HB.out.cell (World.block_lt_of_cell? w _ hw316_1)).trans hw316_1), ((HB.out.cell (World.block_lt_of_cell? w _ hw316_2)).trans hw316_2)⟩ (fun hHeld => ?_)
      clear hK K
      refine nz (some 24) ?_
      refine one_ (i := 7) (N := some 25) (bm 8 255) rfl rfl (one_of HT_.out (by kernel_rfl)) (by decide) (fun K hK => ?_)
      refine goes_ Tryz.func52 (by kernel_rfl) rfl #[.string ((rd_T29 l0 x5_2).f1), .string t317] (by rfl) rfl rfl (zq7) ?_
      with_reducible refine (dialtoneref12_begins.calls ((rd_T29 l0 x5_2).f1) t317 true _ A9.out).mono ?_
      rintro e w' ⟨rfl, ⟨nd, rfl⟩⟩
      refine ⟨_, rfl, ?_⟩
      refine hK.out _ _ ⟨((HB.out.cell (World.block_lt_of_cell? w _ hw316_0)).trans hw316_0), ((HB.out.cell (World.block_lt_of_cell? w _ hw316_1)).trans hw316_1), ((HB.out.cell (World.block_lt_of_cell? w _ hw316_2)).trans hw316_2)⟩ (fun hHeld => ?_)
      clear hK K
      refine nz (some 25) ?_
      refine done_ (done_of HT_.out (by kernel_rfl)) ?_
      try go_wp2
      go_ret
      exact ⟨zq6, zq5⟩
     replace c10 := Bool.eq_false_iff.mpr c10
     subst c10
     rw [if_neg (show ¬ (false = true) by decide)] at H
     have H' := Aside0.mk H
     clear H
     try go_wp2
     replace HB := Aside0.mk (below_drew1 HB.out)
     have p316 : 0 ≤ (x5_2 : Int) := of_decide_eq_true (zq18)
     have q316 : x5_2 < (l0.length : Int) := of_decide_eq_true (zq18)
     obtain ⟨ad316, e316, hx316_0, hx316_1, hx316_2⟩ := at_T29 HR0.out x5_2 p316 q316
     have hw316_2 := hx316_2
     have hw316_1 := hx316_1
     have hw316_0 := hx316_0
     cases e316
     replace hx316_0 := (HB.out.cell (World.block_lt_of_cell? w _ hx316_0)).trans hx316_0
     replace hx316_1 := (HB.out.cell (World.block_lt_of_cell? w _ hx316_1)).trans hx316_1
     replace hx316_2 := (HB.out.cell (World.block_lt_of_cell? w _ hx316_2)).trans hx316_2
     replace p316 := eq_true p316
     replace q316 := eq_true q316
     refine start_ (n := 8) (S := fun w' => w'.cell? (ad316.add ((x5_2).toNat * 3)) = some (.string ((rd_T29 l0 x5_2).f0)) ∧ w'.cell? ⟨(ad316.add ((x5_2).toNat * 3)).block, (ad316.add ((x5_2).toNat * 3)).off + 1, none⟩ = some (.string ((rd_T29 l0 x5_2).f1)) ∧ w'.cell? ⟨(ad316.add ((x5_2).toNat * 3)).block, (ad316.add ((x5_2).toNat * 3)).off + 2, none⟩ = some (.int .i64 ((rd_T29 l0 x5_2).f2))) (ds := []) (bm 8 0) (by kernel_rfl) rfl rfl ⟨((HB.out.cell (World.block_lt_of_cell? w _ hw316_0)).trans hw316_0), ((HB.out.cell (World.block_lt_of_cell? w _ hw316_1)).trans hw316_1), ((HB.out.cell (World.block_lt_of_cell? w _ hw316_2)).trans hw316_2)⟩ (fun hHeld => ?_); refine with_tabW dialtoneref12_Code.tab6 dialtoneref12_Code.bits6 (fun HT_ HW_ => ?_)
     generalize wr.drew = w13 at HB hx316_0 hx316_1 hx316_2 hHeld ⊢
     refine pz 0 (some 18) (bm 8 1) HT_ ?_
     refine pz 1 (some 19) (bm 8 3) HT_ ?_
     refine pz 2 (some 20) (bm 8 7) HT_ ?_
     refine pz 3 (some 21) (bm 8 15) HT_ ?_
     refine pz 5 (some 23) (bm 8 47) HT_ ?_
     refine tz 4 (some 22) (bm 8 63) HT_ HW_ hHeld ?_
     refine one_ (i := 6) (N := some 24) (bm 8 127) rfl rfl (one_of HT_.out (by kernel_rfl)) (by decide) (fun K hK => ?_)
     refine goes_ Tryz.func43 (by kernel_rfl) rfl #[.int .i64 a1] (by rfl) rfl rfl (zq7) ?_
     with_reducible refine (dialtoneref12_Eight.calls k2 a1 t317 _ A8.out).mono ?_
     rintro e w14 ⟨rfl, hb⟩
     refine ⟨_, rfl, ?_⟩
     replace HB := Aside0.mk (below_step (zq5) hb)
     (try clear hb)
     (try clear hb2)
     (try clear hk)
     (try clear hi)
     refine hK.out _ _ ⟨((HB.out.cell (World.block_lt_of_cell? w _ hw316_0)).trans hw316_0), ((HB.out.cell (World.block_lt_of_cell? w _ hw316_1)).trans hw316_1), ((HB.out.cell (World.block_lt_of_cell? w _ hw316_2)).trans hw316_2)⟩ (fun hHeld => ?_)
     clear hK K
     refine nz (some 24) ?_
     refine one_ (i := 7) (N := some 25) (bm 8 255) rfl rfl (one_of HT_.out (by kernel_rfl)) (by decide) (fun K hK => ?_)
     refine goes_ Tryz.func52 (by kernel_rfl) rfl #[.string ((rd_T29 l0 x5_2).f1), .string t317] (by rfl) rfl rfl (zq7) ?_
     with_reducible refine (dialtoneref12_begins.calls ((rd_T29 l0 x5_2).f1) t317 false _ A9.out).mono ?_
     rintro e w' ⟨rfl, ⟨nd, rfl⟩⟩
     refine ⟨_, rfl, ?_⟩
     refine hK.out _ _ ⟨((HB.out.cell (World.block_lt_of_cell? w _ hw316_0)).trans hw316_0), ((HB.out.cell (World.block_lt_of_cell? w _ hw316_1)).trans hw316_1), ((HB.out.cell (World.block_lt_of_cell? w _ hw316_2)).trans hw316_2)⟩ (fun hHeld => ?_)
     clear hK K
     refine nz (some 25) ?_
     refine done_ (done_of HT_.out (by kernel_rfl)) ?_
     try go_wp2
     go_roundg k2
     case measure => have := HJ2.out; have := HK2.out; omega
     case rel => exact ⟨(wrap64 (x5_2 + 1)), (zq1), H', ⟨by have := HJ2.out; have := HK2.out; omega⟩, ⟨zq5⟩⟩
def dialtoneref12_Old.l0 : Nat → ByteArray → Int → Int → ByteArray → ByteArray → Int → Option (ByteArray × Bool)
 | 0, _, _, _, _, _, _ => none
 | k + 1, x6, x7, x8, x320000, x320001, x320002 => if x8 < x7 then (if 0 ≤ x8 then (if x8 < (x6.size : Int) then (if (bt x6 x8) = 48 then (dialtoneref12_Old.l0 k x6 x7 (wrap64 (x8 + 1)) x320000 x320001 x320002) else (some ((⟨#[]⟩ : ByteArray), false))) else (none)) else (none)) else (if 0 ≤ x7 then (if x7 ≤ (x6.size : Int) then (if x320000.size + (x6.extract (x7 : Int).toNat x6.size).size ≤ 9223372036854775807 then (some (x320000 ++ (x6.extract (x7 : Int).toNat x6.size), true)) else (none)) else (none)) else (none))
def dialtoneref12_Old.f (k : Nat) (a0_0 : ByteArray) (a0_1 : ByteArray) (a0_2 : Int) (a1 : Int) : Option (ByteArray × Bool) := (dialtoneref12_Eight.f k a1).bind fun t320 => ((dialtoneref12_local.f a0_0 a0_1 a0_2).bind fun t321 => (dialtoneref12_Old.l0 k t320 (wrap64 (8 - t321)) (a0_1.size : Int) a0_0 a0_1 a0_2))
set_option maxHeartbeats 8000000 in
set_option maxRecDepth 100000 in
theorem dialtoneref12_Old.calls (k : Nat) (a0_0 : ByteArray) (a0_1 : ByteArray) (a0_2 : Int) (a1 : Int) (r1 : ByteArray) (r2 : Bool) (w : World) (h : dialtoneref12_Old.f k a0_0 a0_1 a0_2 a1 = some (r1, r2)) :
 Calls Tryz.prog 44 #[.agg #[.string a0_0, .string a0_1, .int .i64 a0_2], .int .i64 a1] w fun e w' => e = .returned (.tuple #[.string r1, .bool r2]) ∧ Below w.heap.size w w' := by
 have hu29 := Tryz.underlying29
 have HB := Aside0.mk (Below.refl w.heap.size w)
 have H : ((dialtoneref12_Eight.f k a1).bind fun t320 => ((dialtoneref12_local.f a0_0 a0_1 a0_2).bind fun t321 => (dialtoneref12_Old.l0 k t320 (wrap64 (8 - t321)) (a0_1.size : Int) a0_0 a0_1 a0_2))) = some (r1, r2) := h
 clear h
 replace H := Option.bind_eq_some_iff.mp H
 obtain ⟨t320, A30, H⟩ := H
 replace H : ((dialtoneref12_local.f a0_0 a0_1 a0_2).bind fun t321 => (dialtoneref12_Old.l0 k t320 (wrap64 (8 - t321)) (a0_1.size : Int) a0_0 a0_1 a0_2)) = some (r1, r2) := H
 have A3 := Aside0.mk A30
 clear A30
 replace H := Option.bind_eq_some_iff.mp H
 obtain ⟨t321, A40, H⟩ := H
 replace H : (dialtoneref12_Old.l0 k t320 (wrap64 (8 - t321)) (a0_1.size : Int) a0_0 a0_1 a0_2) = some (r1, r2) := H
 have A4 := Aside0.mk A40
 clear A40
 have H' := Aside0.mk H
 clear H
 go_enter Tryz.func44, Tryz.ntmps44
 go_wp2_with (first | ((with_reducible refine gate_dst (N := 2) rfl ?_); refine box_event ?hg (N := 2) ?hd (cs := #[.string a0_0, .string a0_1, .int .i64 a0_2]) (t := 29) ?hr ?_; (case hd => rfl); (case hg => rfl); (case hr => exact zq3); intro gb319 hg w5 hbox hb; have BK319 := Aside0.mk (hbox); have GW319 := Aside0.mk ((zq4 : w.heap.size ≤ gb319)); have GE319 := Aside0.mk ((zq4 : w.heap.size ≤ gb319)); replace HB := Aside0.mk (below_step (zq5) hb); clear hb hbox hg) | (go_at_call 43; (with_reducible refine (dialtoneref12_Eight.calls k a1 t320 _ A3.out).mono ?_); rintro e w6 ⟨rfl, hb⟩; replace BK319 := Aside0.mk (blk_below (g := gb319) (o := .cells #[.string a0_0, .string a0_1, .int .i64 a0_2] 29 (0, 0)) (zq122) hb); replace HB := Aside0.mk (below_step (zq123) hb); (try clear hb); (try clear hb2); (try clear hk); (try clear hi); have hcz7_0 : w6.cell? ⟨gb319, 0, none⟩ = some (.string a0_0) := (blk_cell BK319.out 0).trans rfl; have hcz7_1 : w6.cell? ⟨gb319, 1, none⟩ = some (.string a0_1) := (blk_cell BK319.out 1).trans rfl; have hcz7_2 : w6.cell? ⟨gb319, 2, none⟩ = some (.int .i64 a0_2) := (blk_cell BK319.out 2).trans rfl; have hfz7_0 := blk_frozen BK319.out 0; have hfz7_1 := blk_frozen BK319.out 1; have hfz7_2 := blk_frozen BK319.out 2) | (go_at_call 48; (with_reducible refine (dialtoneref12_local.calls a0_0 a0_1 a0_2 t321 _ A4.out).mono ?_); rintro e w8 ⟨rfl, hb⟩; replace BK319 := Aside0.mk (blk_below (g := gb319) (o := .cells #[.string a0_0, .string a0_1, .int .i64 a0_2] 29 (0, 0)) (zq122) hb); replace HB := Aside0.mk (below_step (zq123) hb); (try clear hb); (try clear hb2); (try clear hk); (try clear hi); have hcz9_0 : w8.cell? ⟨gb319, 0, none⟩ = some (.string a0_0) := (blk_cell BK319.out 0).trans rfl; have hcz9_1 : w8.cell? ⟨gb319, 1, none⟩ = some (.string a0_1) := (blk_cell BK319.out 1).trans rfl; have hcz9_2 : w8.cell? ⟨gb319, 2, none⟩ = some (.int .i64 a0_2) := (blk_cell BK319.out 2).trans rfl; have hfz9_0 := blk_frozen BK319.out 0; have hfz9_1 := blk_frozen BK319.out 1; have hfz9_2 := blk_frozen BK319.out 2))
 repeat (go_quiet (first | ((with_reducible refine gate_dst (N := 2) rfl ?_); refine box_event ?hg (N := 2) ?hd (cs := #[.string a0_0, .string a0_1, .int .i64 a0_2]) (t := 29) ?hr ?_; (case hd => rfl); (case hg => rfl); (case hr => exact zq3); intro gb319 hg w5 hbox hb; have BK319 := Aside0.mk (hbox); have GW319 := Aside0.mk ((zq4 : w.heap.size ≤ gb319)); have GE319 := Aside0.mk ((zq4 : w.heap.size ≤ gb319)); replace HB := Aside0.mk (below_step (zq5) hb); clear hb hbox hg) | (go_at_call 43; (with_reducible refine (dialtoneref12_Eight.calls k a1 t320 _ A3.out).mono ?_); rintro e w6 ⟨rfl, hb⟩; replace BK319 := Aside0.mk (blk_below (g := gb319) (o := .cells #[.string a0_0, .string a0_1, .int .i64 a0_2] 29 (0, 0)) (zq122) hb); replace HB := Aside0.mk (below_step (zq123) hb); (try clear hb); (try clear hb2); (try clear hk); (try clear hi); have hcz7_0 : w6.cell? ⟨gb319, 0, none⟩ = some (.string a0_0) := (blk_cell BK319.out 0).trans rfl; have hcz7_1 : w6.cell? ⟨gb319, 1, none⟩ = some (.string a0_1) := (blk_cell BK319.out 1).trans rfl; have hcz7_2 : w6.cell? ⟨gb319, 2, none⟩ = some (.int .i64 a0_2) := (blk_cell BK319.out 2).trans rfl; have hfz7_0 := blk_frozen BK319.out 0; have hfz7_1 := blk_frozen BK319.out 1; have hfz7_2 := blk_frozen BK319.out 2) | (go_at_call 48; (with_reducible refine (dialtoneref12_local.calls a0_0 a0_1 a0_2 t321 _ A4.out).mono ?_); rintro e w8 ⟨rfl, hb⟩; replace BK319 := Aside0.mk (blk_below (g := gb319) (o := .cells #[.string a0_0, .string a0_1, .int .i64 a0_2] 29 (0, 0)) (zq122) hb); replace HB := Aside0.mk (below_step (zq123) hb); (try clear hb); (try clear hb2); (try clear hk); (try clear hi); have hcz9_0 : w8.cell? ⟨gb319, 0, none⟩ = some (.string a0_0) := (blk_cell BK319.out 0).trans rfl; have hcz9_1 : w8.cell? ⟨gb319, 1, none⟩ = some (.string a0_1) := (blk_cell BK319.out 1).trans rfl; have hcz9_2 : w8.cell? ⟨gb319, 2, none⟩ = some (.int .i64 a0_2) := (blk_cell BK319.out 2).trans rfl; have hfz9_0 := blk_frozen BK319.out 0; have hfz9_1 := blk_frozen BK319.out 1; have hfz9_2 := blk_frozen BK319.out 2)); try go_wp2_with (first | ((with_reducible refine gate_dst (N := 2) rfl ?_); refine box_event ?hg (N := 2) ?hd (cs := #[.string a0_0, .string a0_1, .int .i64 a0_2]) (t := 29) ?hr ?_; (case hd => rfl); (case hg => rfl); (case hr => exact zq3); intro gb319 hg w5 hbox hb; have BK319 := Aside0.mk (hbox); have GW319 := Aside0.mk ((zq4 : w.heap.size ≤ gb319)); have GE319 := Aside0.mk ((zq4 : w.heap.size ≤ gb319)); replace HB := Aside0.mk (below_step (zq5) hb); clear hb hbox hg) | (go_at_call 43; (with_reducible refine (dialtoneref12_Eight.calls k a1 t320 _ A3.out).mono ?_); rintro e w6 ⟨rfl, hb⟩; replace BK319 := Aside0.mk (blk_below (g := gb319) (o := .cells #[.string a0_0, .string a0_1, .int .i64 a0_2] 29 (0, 0)) (zq122) hb); replace HB := Aside0.mk (below_step (zq123) hb); (try clear hb); (try clear hb2); (try clear hk); (try clear hi); have hcz7_0 : w6.cell? ⟨gb319, 0, none⟩ = some (.string a0_0) := (blk_cell BK319.out 0).trans rfl; have hcz7_1 : w6.cell? ⟨gb319, 1, none⟩ = some (.string a0_1) := (blk_cell BK319.out 1).trans rfl; have hcz7_2 : w6.cell? ⟨gb319, 2, none⟩ = some (.int .i64 a0_2) := (blk_cell BK319.out 2).trans rfl; have hfz7_0 := blk_frozen BK319.out 0; have hfz7_1 := blk_frozen BK319.out 1; have hfz7_2 := blk_frozen BK319.out 2) | (go_at_call 48; (with_reducible refine (dialtoneref12_local.calls a0_0 a0_1 a0_2 t321 _ A4.out).mono ?_); rintro e w8 ⟨rfl, hb⟩; replace BK319 := Aside0.mk (blk_below (g := gb319) (o := .cells #[.string a0_0, .string a0_1, .int .i64 a0_2] 29 (0, 0)) (zq122) hb); replace HB := Aside0.mk (below_step (zq123) hb); (try clear hb); (try clear hb2); (try clear hk); (try clear hi); have hcz9_0 : w8.cell? ⟨gb319, 0, none⟩ = some (.string a0_0) := (blk_cell BK319.out 0).trans rfl; have hcz9_1 : w8.cell? ⟨gb319, 1, none⟩ = some (.string a0_1) := (blk_cell BK319.out 1).trans rfl; have hcz9_2 : w8.cell? ⟨gb319, 2, none⟩ = some (.int .i64 a0_2) := (blk_cell BK319.out 2).trans rfl; have hfz9_0 := blk_frozen BK319.out 0; have hfz9_1 := blk_frozen BK319.out 1; have hfz9_2 := blk_frozen BK319.out 2)))
 go_loopg [8] k (fun kq v8 w' => ∃ (x8_1 : Int), v8 = .int .i64 x8_1 ∧ Aside0 (dialtoneref12_Old.l0 kq t320 (wrap64 (8 - t321)) x8_1 a0_0 a0_1 a0_2 = some (r1, r2)) ∧ Aside0 (kq ≤ k) ∧ Aside0 (w'.heap[gb319]? = some (.cells #[.string a0_0, .string a0_1, .int .i64 a0_2] 29 (0, 0))) ∧ Aside0 (Below w.heap.size w w'))
 case atStart => exact ⟨((a0_1.size : Int)), (zq1), H', ⟨Nat.le_refl _⟩, ⟨zq122⟩, ⟨zq123⟩⟩
 case round =>
  clear H'
  try clear p2
  try clear c4
  try clear p6
  try clear hcz7_0
  try clear hcz7_1
  try clear hcz7_2
  try clear hcz9_0
  try clear hcz9_1
  try clear hcz9_2
  try clear hfz7_0
  try clear hfz7_1
  try clear hfz7_2
  try clear hfz9_0
  try clear hfz9_1
  try clear hfz9_2
  obtain ⟨x8_1, rfl, HA, HK1, BK319, HB⟩ := hrel
  cases gk with
  | zero => exact absurd HA.out (by simp [dialtoneref12_Old.l0])
  | succ k1 =>
   have H := HA.out
   clear HA
   simp only [dialtoneref12_Old.l0] at H
   by_cases c10 : x8_1 < (wrap64 (8 - t321))
   ·rw [if_pos c10] at H
    have c10b0 : decide (x8_1 < (wrap64 (8 - t321))) = true := decide_eq_true c10
    clear c10
    by_cases c11 : 0 ≤ x8_1
    rotate_left
    ·rw [if_neg c11] at H
     exact absurd H (by simp)
    rw [if_pos c11] at H
    have c11b0 : decide (0 ≤ x8_1) = true := decide_eq_true c11
    clear c11
    by_cases c12 : x8_1 < (t320.size : Int)
    rotate_left
    ·rw [if_neg c12] at H
     exact absurd H (by simp)
    rw [if_pos c12] at H
    have c12b0 : decide (x8_1 < (t320.size : Int)) = true := decide_eq_true c12
    clear c12
    by_cases c14 : (bt t320 x8_1) = 48
    rotate_left
    ·rw [if_neg c14] at H
     have c14b0 : ((bt t320 x8_1) == 48) = false := beq_eq_false_iff_ne.mpr c14
     have c14b1 : ((bt t320 x8_1) != 48) = true := bne_iff_ne.mpr c14
     simp only [Option.some.injEq, Prod.mk.injEq] at H
     obtain ⟨rfl, rfl⟩ := H
     have p13 : 0 ≤ (x8_1 : Int) := of_decide_eq_true (zq18)
     have q13 : x8_1 < (t320.size : Int) := of_decide_eq_true (zq18)
     have hx13 := bt_at t320 x8_1
     replace p13 := eq_true p13
     replace q13 := eq_true q13
     go_wp2
     repeat (go_quiet (fail); try go_wp2)
     go_ret2
     exact ⟨zq6, zq123⟩
    rw [if_pos c14] at H
    have c14b0 : ((bt t320 x8_1) == 48) = true := beq_iff_eq.mpr c14
    have c14b1 : ((bt t320 x8_1) != 48) = false := bne_eq_false_iff_eq.mpr c14
    clear c14
    have H' := Aside0.mk H
    clear H
    have p13 : 0 ≤ (x8_1 : Int) := of_decide_eq_true (zq18)
    have q13 : x8_1 < (t320.size : Int) := of_decide_eq_true (zq18)
    have hx13 := bt_at t320 x8_1
    replace p13 := eq_true p13
    replace q13 := eq_true q13
    go_wp2
    repeat (go_quiet (fail); try go_wp2)
    go_roundg k1
    case measure => have := HK1.out; omega
    case rel => exact ⟨(wrap64 (x8_1 + 1)), (zq1), H', ⟨zq32⟩, ⟨zq122⟩, ⟨zq123⟩⟩
   rw [if_neg c10] at H
   have c10b0 : decide (x8_1 < (wrap64 (8 - t321))) = false := decide_eq_false c10
   clear c10
   obtain ⟨ji15, hji15⟩ : ∃ j_ : Int, (wrap64 (8 - t321)) = j_ := ⟨_, rfl⟩
   replace H : (if 0 ≤ (ji15) then (if (ji15) ≤ (t320.size : Int) then (if a0_0.size + (t320.extract ((ji15) : Int).toNat t320.size).size ≤ 9223372036854775807 then (some (a0_0 ++ (t320.extract ((ji15) : Int).toNat t320.size), true)) else (none)) else (none)) else (none)) = some (r1, r2) := by first | (rw [hji15] at H; exact H) | (simp only [hji15] at H ⊢; exact H)
   (try rw [hji15] at c10b0)
   have hji15w : (IntKind.i64.wrap (8 - t321)) = ji15 := (i64_w _).trans hji15
   by_cases c16 : 0 ≤ (ji15)
   rotate_left
   ·rw [if_neg c16] at H
    exact absurd H (by simp)
   rw [if_pos c16] at H
   have c16b0 := eq_true c16
   have c16b1 : decide (0 ≤ (ji15)) = true := decide_eq_true c16
   clear c16
   by_cases c17 : (ji15) ≤ (t320.size : Int)
   rotate_left
   ·rw [if_neg c17] at H
    exact absurd H (by simp)
   rw [if_pos c17] at H
   have c17b0 := eq_true c17
   have c17b1 : decide ((ji15) ≤ (t320.size : Int)) = true := decide_eq_true c17
   clear c17
   by_cases c18 : a0_0.size + (t320.extract ((ji15) : Int).toNat t320.size).size ≤ 9223372036854775807
   rotate_left
   ·rw [if_neg c18] at H
    exact absurd H (by simp)
   rw [if_pos c18] at H
   have c18b0 := eq_true c18
   have c18b1 : decide (a0_0.size + (t320.extract ((ji15) : Int).toNat t320.size).size ≤ 9223372036854775807) = true := decide_eq_true c18
   try have c18b2 : (9223372036854775807 < a0_0.size + (t320.extract ((ji15) : Int).toNat t320.size).size) = False := eq_false (Nat.not_lt.2 c18)
   simp only [Option.some.injEq, Prod.mk.injEq] at H
   obtain ⟨rfl, rfl⟩ := H
   have hcz19_0 : wr.cell? ⟨gb319, 0, none⟩ = some (.string a0_0) := (blk_cell BK319.out 0).trans rfl
   have hcz19_1 : wr.cell? ⟨gb319, 1, none⟩ = some (.string a0_1) := (blk_cell BK319.out 1).trans rfl
   have hcz19_2 : wr.cell? ⟨gb319, 2, none⟩ = some (.int .i64 a0_2) := (blk_cell BK319.out 2).trans rfl
   have hfz19_0 := blk_frozen BK319.out 0
   have hfz19_1 := blk_frozen BK319.out 1
   have hfz19_2 := blk_frozen BK319.out 2
   go_wp2
   repeat (go_quiet (fail); try go_wp2)
   go_ret2
   exact ⟨by first | rfl | (simp [errW_none, errW_some] <;> rfl) | (simp only [← hji15]; first | rfl | (simp [errW_none, errW_some] <;> rfl)) | (simp [*, errW_none, errW_some] <;> rfl), zq123⟩
def dialtoneref12_Write.j0 : Nat → List (S29) → Int → Int → Bool → Option (ByteArray × Int)
 | 0, _, _, _, _ => none
 | k + 1, x0, x1, x2, x18 => if x18 = true then (some ((⟨#[]⟩ : ByteArray), 120)) else ((dialtoneref12_Code.f k x0 x1).bind fun t324 => (if t324 < 0 then (some ((⟨#[]⟩ : ByteArray), 120)) else (if x2 = 1 then (if 0 ≤ t324 then (if t324 < (x0.length : Int) then ((dialtoneref12_Old.f k ((rd_T29 x0 t324).f0) ((rd_T29 x0 t324).f1) ((rd_T29 x0 t324).f2) x1).bind fun bt326 => (if bt326.2 = true then (some (bt326.1, 0)) else (some ((⟨#[]⟩ : ByteArray), 120)))) else (none)) else (none)) else ((dialtoneref12_Eight.f k x1).bind fun t328 => (some (t328, 0))))))
def dialtoneref12_Write.f (k : Nat) (l0 : List (S29)) (a1 : Int) (a2 : Int) : Option (ByteArray × Int) := (dialtoneref12_Valid.f k l0).bind fun t322 => (if t322 = true then ((dialtoneref12_phase.f a2).bind fun t323 => (dialtoneref12_Write.j0 k l0 a1 a2 (!t323))) else (dialtoneref12_Write.j0 k l0 a1 a2 true))
set_option maxHeartbeats 8000000 in
set_option maxRecDepth 100000 in
theorem dialtoneref12_Write.calls (k : Nat) (A0 : Option Addr) (c0 : Nat) (l0 : List (S29)) (a1 : Int) (a2 : Int) (r1 : ByteArray) (r2 : Int) (w : World) (hr0 : Kd.C k29 w A0 l0.length l0) (hc0 : l0.length ≤ c0) (h : dialtoneref12_Write.f k l0 a1 a2 = some (r1, r2)) :
 Calls Tryz.prog 18 #[.slice A0 l0.length c0, .int .i64 a1, .int .i64 a2] w fun e w' => e = .returned (.tuple #[.string r1, .int .i64 r2]) ∧ Below w.heap.size w w' := by
 have hu29 := Tryz.underlying29
 have HR0 := Aside0.mk hr0
 have HC0 := Aside0.mk hc0
 clear hr0 hc0
 have HB := Aside0.mk (Below.refl w.heap.size w)
 have H : ((dialtoneref12_Valid.f k l0).bind fun t322 => (if t322 = true then ((dialtoneref12_phase.f a2).bind fun t323 => (dialtoneref12_Write.j0 k l0 a1 a2 (!t323))) else (dialtoneref12_Write.j0 k l0 a1 a2 true))) = some (r1, r2) := h
 clear h
 have HC4 := Aside0.mk H
 clear H
 go_enter Tryz.func18, Tryz.ntmps18
 go_upto_region 1 with (fail)
 go_cut [18] (fun v18 wc => ∃ (kq : Nat) (x18_3 : Bool), v18 = .bool x18_3 ∧ Aside0 (dialtoneref12_Write.j0 kq l0 a1 a2 x18_3 = some (r1, r2)) ∧ Aside0 (kq ≤ k) ∧ Aside0 (Below w.heap.size w wc))
 case first =>
  have H := HC4.out
  clear HC4
  replace H := Option.bind_eq_some_iff.mp H
  obtain ⟨t322, A50, H⟩ := H
  replace H : (if t322 = true then ((dialtoneref12_phase.f a2).bind fun t323 => (dialtoneref12_Write.j0 k l0 a1 a2 (!t323))) else (dialtoneref12_Write.j0 k l0 a1 a2 true)) = some (r1, r2) := H
  have A5 := Aside0.mk A50
  clear A50
  by_cases c6 : t322 = true
  rotate_left
  ·replace c6 := Bool.eq_false_iff.mpr c6
   subst c6
   have H1 : (dialtoneref12_Write.j0 k l0 a1 a2 true) = some (r1, r2) := by rw [if_neg (show ¬ (false = true) by decide)] at H; exact H
   clear H
   have H := H1
   clear H1
   have H' := Aside0.mk H
   clear H
   go_wp2_with (first | ((with_reducible refine gate_callee (f := 26) rfl ?_); refine goesL_ (some 12) rfl rfl Tryz.func26 (by kernel_rfl) rfl #[.slice A0 l0.length c0] rfl (zq7) ?_; (with_reducible refine (dialtoneref12_Valid.calls k _ _ l0 false _ ?side1 ?side2 A5.out).mono ?_); (case side1 => exact zq28); (case side2 => exact zq29); rintro e w9 ⟨rfl, hb⟩; refine ⟨_, rfl, ?_⟩; replace HB := Aside0.mk (below_step (zq5) hb); (try clear hb); (try clear hb2); (try clear hk); (try clear hi)))
   go_meet
   case rel => exact ⟨_, (true), (zq1), H', ⟨zq10⟩, ⟨zq5⟩⟩
  subst c6
  have H1 : ((dialtoneref12_phase.f a2).bind fun t323 => (dialtoneref12_Write.j0 k l0 a1 a2 (!t323))) = some (r1, r2) := by rw [if_pos rfl] at H; exact H
  clear H
  have H := H1
  clear H1
  replace H := Option.bind_eq_some_iff.mp H
  obtain ⟨t323, A70, H⟩ := H
  replace H : (dialtoneref12_Write.j0 k l0 a1 a2 (!t323)) = some (r1, r2) := H
  have A7 := Aside0.mk A70
  clear A70
  have H' := Aside0.mk H
  clear H
  go_wp2_with (first | ((with_reducible refine gate_callee (f := 26) rfl ?_); refine goesL_ (some 12) rfl rfl Tryz.func26 (by kernel_rfl) rfl #[.slice A0 l0.length c0] rfl (zq7) ?_; (with_reducible refine (dialtoneref12_Valid.calls k _ _ l0 true _ ?side1 ?side2 A5.out).mono ?_); (case side1 => exact zq28); (case side2 => exact zq29); rintro e w8 ⟨rfl, hb⟩; refine ⟨_, rfl, ?_⟩; replace HB := Aside0.mk (below_step (zq5) hb); (try clear hb); (try clear hb2); (try clear hk); (try clear hi)) | (go_at_call 41; (with_reducible refine (dialtoneref12_phase.calls a2 t323 _ A7.out).mono ?_); rintro e w' ⟨rfl, ⟨nd, rfl⟩⟩))
  go_meet
  case rel => exact ⟨_, (!t323), (zq1), H', ⟨zq10⟩, ⟨zq5⟩⟩
 case rest =>
  clear HC4
  try clear c1
  try clear c2
  try clear p2
  try clear c6
  try clear p6
  obtain ⟨kq, x18_3, rfl, HA, HJ3, HB⟩ := hcut
  cases kq with
  | zero => exact absurd HA.out (by simp [dialtoneref12_Write.j0])
  | succ kj3 =>
   have H := HA.out
   clear HA
   simp only [dialtoneref12_Write.j0] at H
   by_cases c10 : x18_3 = true
   ·subst c10
    have H1 : (some ((⟨#[]⟩ : ByteArray), 120)) = some (r1, r2) := by rw [if_pos rfl] at H; exact H
    clear H
    have H := H1
    clear H1
    simp only [Option.some.injEq, Prod.mk.injEq] at H
    obtain ⟨rfl, rfl⟩ := H
    go_wp2
    go_ret2
    exact ⟨zq6, zq5⟩
   replace c10 := Bool.eq_false_iff.mpr c10
   subst c10
   have H1 : ((dialtoneref12_Code.f kj3 l0 a1).bind fun t324 => (if t324 < 0 then (some ((⟨#[]⟩ : ByteArray), 120)) else (if a2 = 1 then (if 0 ≤ t324 then (if t324 < (l0.length : Int) then ((dialtoneref12_Old.f kj3 ((rd_T29 l0 t324).f0) ((rd_T29 l0 t324).f1) ((rd_T29 l0 t324).f2) a1).bind fun bt326 => (if bt326.2 = true then (some (bt326.1, 0)) else (some ((⟨#[]⟩ : ByteArray), 120)))) else (none)) else (none)) else ((dialtoneref12_Eight.f kj3 a1).bind fun t328 => (some (t328, 0)))))) = some (r1, r2) := by rw [if_neg (show ¬ (false = true) by decide)] at H; exact H
   clear H
   have H := H1
   clear H1
   replace H := Option.bind_eq_some_iff.mp H
   obtain ⟨t324, A110, H⟩ := H
   replace H : (if t324 < 0 then (some ((⟨#[]⟩ : ByteArray), 120)) else (if a2 = 1 then (if 0 ≤ t324 then (if t324 < (l0.length : Int) then ((dialtoneref12_Old.f kj3 ((rd_T29 l0 t324).f0) ((rd_T29 l0 t324).f1) ((rd_T29 l0 t324).f2) a1).bind fun bt326 => (if bt326.2 = true then (some (bt326.1, 0)) else (some ((⟨#[]⟩ : ByteArray), 120)))) else (none)) else (none)) else ((dialtoneref12_Eight.f kj3 a1).bind fun t328 => (some (t328, 0))))) = some (r1, r2) := H
   have A11 := Aside0.mk A110
   clear A110
   by_cases c12 : t324 < 0
   ·rw [if_pos c12] at H
    have c12b0 : decide (t324 < 0) = true := decide_eq_true c12
    clear c12
    simp only [Option.some.injEq, Prod.mk.injEq] at H
    obtain ⟨rfl, rfl⟩ := H
    go_wp2_with (first | ((with_reducible refine gate_callee (f := 42) rfl ?_); refine goesL_ (some 21) rfl rfl Tryz.func42 (by kernel_rfl) rfl #[.slice A0 l0.length c0, .int .i64 a1] rfl (zq7) ?_; (with_reducible refine (dialtoneref12_Code.calls kj3 _ _ l0 a1 t324 _ ?side1 ?side2 A11.out).mono ?_); (case side1 => exact zq28); (case side2 => exact zq29); rintro e w13 ⟨rfl, hb⟩; refine ⟨_, rfl, ?_⟩; replace HB := Aside0.mk (below_step (zq5) hb); (try clear hb); (try clear hb2); (try clear hk); (try clear hi)))
    go_ret2
    exact ⟨zq6, zq5⟩
   rw [if_neg c12] at H
   have c12b0 : decide (t324 < 0) = false := decide_eq_false c12
   clear c12
   by_cases c14 : a2 = 1
   rotate_left
   ·rw [if_neg c14] at H
    have c14b0 : (a2 == 1) = false := beq_eq_false_iff_ne.mpr c14
    have c14b1 : (a2 != 1) = true := bne_iff_ne.mpr c14
    replace H := Option.bind_eq_some_iff.mp H
    obtain ⟨t328, A230, H⟩ := H
    replace H : (some (t328, 0)) = some (r1, r2) := H
    have A23 := Aside0.mk A230
    clear A230
    simp only [Option.some.injEq, Prod.mk.injEq] at H
    obtain ⟨rfl, rfl⟩ := H
    go_wp2_with (first | ((with_reducible refine gate_callee (f := 42) rfl ?_); refine goesL_ (some 21) rfl rfl Tryz.func42 (by kernel_rfl) rfl #[.slice A0 l0.length c0, .int .i64 a1] rfl (zq7) ?_; (with_reducible refine (dialtoneref12_Code.calls kj3 _ _ l0 a1 t324 _ ?side1 ?side2 A11.out).mono ?_); (case side1 => exact zq28); (case side2 => exact zq29); rintro e w24 ⟨rfl, hb⟩; refine ⟨_, rfl, ?_⟩; replace HB := Aside0.mk (below_step (zq5) hb); (try clear hb); (try clear hb2); (try clear hk); (try clear hi)) | ((with_reducible refine gate_callee (f := 43) rfl ?_); refine goesL_ (some 27) rfl rfl Tryz.func43 (by kernel_rfl) rfl #[.int .i64 a1] rfl (zq7) ?_; (with_reducible refine (dialtoneref12_Eight.calls kj3 a1 t328 _ A23.out).mono ?_); rintro e w25 ⟨rfl, hb⟩; refine ⟨_, rfl, ?_⟩; replace HB := Aside0.mk (below_step (zq5) hb); (try clear hb); (try clear hb2); (try clear hk); (try clear hi)))
    go_ret2
    exact ⟨zq6, zq5⟩
   rw [if_pos c14] at H
   have c14b0 : (a2 == 1) = true := beq_iff_eq.mpr c14
   have c14b1 : (a2 != 1) = false := bne_eq_false_iff_eq.mpr c14
   clear c14
   by_cases c15 : 0 ≤ t324
   rotate_left
   ·rw [if_neg c15] at H
    exact absurd H (by simp)
   rw [if_pos c15] at H
   have c15b0 : decide (0 ≤ t324) = true := decide_eq_true c15
   clear c15
   by_cases c16 : t324 < (l0.length : Int)
   rotate_left
   ·rw [if_neg c16] at H
    exact absurd H (by simp)
   rw [if_pos c16] at H
   have c16b0 : decide (t324 < (l0.length : Int)) = true := decide_eq_true c16
   clear c16
   replace H := Option.bind_eq_some_iff.mp H
   obtain ⟨⟨t326, t327⟩, A170, H⟩ := H
   replace H : (if t327 = true then (some (t326, 0)) else (some ((⟨#[]⟩ : ByteArray), 120))) = some (r1, r2) := H
   have A17 := Aside0.mk A170
   clear A170
   by_cases c18 : t327 = true
   ·subst c18
    have H1 : (some (t326, 0)) = some (r1, r2) := by rw [if_pos rfl] at H; exact H
    clear H
    have H := H1
    clear H1
    simp only [Option.some.injEq, Prod.mk.injEq] at H
    obtain ⟨rfl, rfl⟩ := H
    go_wp2_with (first | ((with_reducible refine gate_callee (f := 42) rfl ?_); refine goesL_ (some 21) rfl rfl Tryz.func42 (by kernel_rfl) rfl #[.slice A0 l0.length c0, .int .i64 a1] rfl (zq7) ?_; (with_reducible refine (dialtoneref12_Code.calls kj3 _ _ l0 a1 t324 _ ?side1 ?side2 A11.out).mono ?_); (case side1 => exact zq28); (case side2 => exact zq29); rintro e w19 ⟨rfl, hb⟩; refine ⟨_, rfl, ?_⟩; replace HB := Aside0.mk (below_step (zq5) hb); (try clear hb); (try clear hb2); (try clear hk); (try clear hi); have p325 : 0 ≤ (t324 : Int) := of_decide_eq_true (zq18); have q325 : t324 < (l0.length : Int) := of_decide_eq_true (zq18); obtain ⟨ad325, e325, hx325_0, hx325_1, hx325_2⟩ := at_T29 HR0.out t324 p325 q325; cases e325; replace hx325_0 := (HB.out.cell (World.block_lt_of_cell? w _ hx325_0)).trans hx325_0; replace hx325_1 := (HB.out.cell (World.block_lt_of_cell? w _ hx325_1)).trans hx325_1; replace hx325_2 := (HB.out.cell (World.block_lt_of_cell? w _ hx325_2)).trans hx325_2; replace p325 := eq_true p325; replace q325 := eq_true q325) | ((with_reducible refine gate_callee (f := 44) rfl ?_); refine goesL_ (some 34) rfl rfl Tryz.func44 (by kernel_rfl) rfl #[.agg #[.string ((rd_T29 l0 t324).f0), .string ((rd_T29 l0 t324).f1), .int .i64 ((rd_T29 l0 t324).f2)], .int .i64 a1] rfl (zq7) ?_; (with_reducible refine (dialtoneref12_Old.calls kj3 ((rd_T29 l0 t324).f0) ((rd_T29 l0 t324).f1) ((rd_T29 l0 t324).f2) a1 t326 true _ A17.out).mono ?_); rintro e w20 ⟨rfl, hb⟩; refine ⟨_, rfl, ?_⟩; replace HB := Aside0.mk (below_step (zq5) hb); (try clear hb); (try clear hb2); (try clear hk); (try clear hi)))
    go_ret2
    exact ⟨zq6, zq5⟩
   replace c18 := Bool.eq_false_iff.mpr c18
   subst c18
   have H1 : (some ((⟨#[]⟩ : ByteArray), 120)) = some (r1, r2) := by rw [if_neg (show ¬ (false = true) by decide)] at H; exact H
   clear H
   have H := H1
   clear H1
   simp only [Option.some.injEq, Prod.mk.injEq] at H
   obtain ⟨rfl, rfl⟩ := H
   go_wp2_with (first | ((with_reducible refine gate_callee (f := 42) rfl ?_); refine goesL_ (some 21) rfl rfl Tryz.func42 (by kernel_rfl) rfl #[.slice A0 l0.length c0, .int .i64 a1] rfl (zq7) ?_; (with_reducible refine (dialtoneref12_Code.calls kj3 _ _ l0 a1 t324 _ ?side1 ?side2 A11.out).mono ?_); (case side1 => exact zq28); (case side2 => exact zq29); rintro e w21 ⟨rfl, hb⟩; refine ⟨_, rfl, ?_⟩; replace HB := Aside0.mk (below_step (zq5) hb); (try clear hb); (try clear hb2); (try clear hk); (try clear hi); have p325 : 0 ≤ (t324 : Int) := of_decide_eq_true (zq18); have q325 : t324 < (l0.length : Int) := of_decide_eq_true (zq18); obtain ⟨ad325, e325, hx325_0, hx325_1, hx325_2⟩ := at_T29 HR0.out t324 p325 q325; cases e325; replace hx325_0 := (HB.out.cell (World.block_lt_of_cell? w _ hx325_0)).trans hx325_0; replace hx325_1 := (HB.out.cell (World.block_lt_of_cell? w _ hx325_1)).trans hx325_1; replace hx325_2 := (HB.out.cell (World.block_lt_of_cell? w _ hx325_2)).trans hx325_2; replace p325 := eq_true p325; replace q325 := eq_true q325) | ((with_reducible refine gate_callee (f := 44) rfl ?_); refine goesL_ (some 34) rfl rfl Tryz.func44 (by kernel_rfl) rfl #[.agg #[.string ((rd_T29 l0 t324).f0), .string ((rd_T29 l0 t324).f1), .int .i64 ((rd_T29 l0 t324).f2)], .int .i64 a1] rfl (zq7) ?_; (with_reducible refine (dialtoneref12_Old.calls kj3 ((rd_T29 l0 t324).f0) ((rd_T29 l0 t324).f1) ((rd_T29 l0 t324).f2) a1 t326 false _ A17.out).mono ?_); rintro e w22 ⟨rfl, hb⟩; refine ⟨_, rfl, ?_⟩; replace HB := Aside0.mk (below_step (zq5) hb); (try clear hb); (try clear hb2); (try clear hk); (try clear hi)))
   go_ret2
   exact ⟨zq6, zq5⟩
end Go.Proofs.YtlmfoblgheepoaaGreatDoor.Pl
end
