/- Gr: part 3 of the proof that the law's row holds: the printed walk of the program's functions, the plain law, the row. -/
import Derived.Test.YtlmfoblgheepoaaGreatDoorProg
import Derived.Below
import Derived.Deep.Draws
import Derived.Deep.AppendLies
import Derived.Maps.AppendAt
import Derived.OwnWalk
import Derived.Laws.BytesArg
import Derived.Laws.MakeOwn
import Derived.Laws.OwnMore
import Derived.Deep.OwnRows
import Derived.Tactics
import Derived.Lib.ConvBytes
import Derived.Laws.Slices
import Derived.WalkKit
import Derived.KernelRfl
import Derived.RowKit3
import Derived.Deep.LoopGhost
import Derived.Deep.QuietTactic
import Derived.BigQuiet
import Derived.WideLaws
import Derived.Deep.DeepCutAuto
import Derived.Deep.CutBlock
import Derived.Deep.RegionHeld3
import Derived.Laws.Rows
import Derived.Lib.AppendStr
import Derived.ArgAppend
import Derived.Laws.IdiomCopy
import Derived.OrdersHeld
import Derived.Laws.BitsLemmas
import Derived.RowKit
import Derived.Sort.KeysCollected
import Derived.WalkSpells
import Derived.Test.YtlmfoblgheepoaaGreatDoorQGr0
import Derived.Test.YtlmfoblgheepoaaGreatDoorQGr1
namespace Go.Proofs.YtlmfoblgheepoaaGreatDoor.Z
theorem zr5 {p : Prop} (h : p := by first | rfl | (simp [errW_none, errW_some] <;> rfl) | (simp [*, errW_none, errW_some] <;> rfl)) : p := h
theorem zr7 {p : Prop} (h : p := by (with_reducible repeat (first | refine blk_drewN ?_ _ | refine blk_drew ?_ | refine blk_alloc ?_ _)); exact BK578.out) : p := h
theorem zr8 {p : Prop} (h : p := by repeat (first | (with_reducible first | exact HB.out | apply below_alloc | apply pw_below_drewN | apply below_drew1 | refine below_set ?_ GE578.out) | exact HB.out)) : p := h
theorem zr9 {p : Prop} (h : p := by rw [hg]; exact (below_size (by repeat (first | (with_reducible first | exact HB.out | apply below_alloc | apply pw_below_drewN | apply below_drew1 | refine below_set ?_ GE578.out) | exact HB.out)))) : p := h
theorem zr10 {p : Prop} (h : p := by rw [hg]; exact Nat.ne_of_lt (blk_lt (g := gb578) (o := .cells #[.int .i64 a1_0, .int .i64 a1_1, .int .i64 a1_2] 23 (0, 0)) (by (with_reducible repeat (first | refine blk_drewN ?_ _ | refine blk_drew ?_ | refine blk_alloc ?_ _)); exact BK578.out))) : p := h
theorem zr11 {p : Prop} (h : p := by rw [hg]; exact Nat.ne_of_gt (blk_lt (g := gb578) (o := .cells #[.int .i64 a1_0, .int .i64 a1_1, .int .i64 a1_2] 23 (0, 0)) (by (with_reducible repeat (first | refine blk_drewN ?_ _ | refine blk_drew ?_ | refine blk_alloc ?_ _)); exact BK578.out))) : p := h
theorem zr12 {p : Prop} (h : p := by exact Glb.below HGLB.out (by repeat (first | (with_reducible first | exact HB.out | apply below_alloc | apply pw_below_drewN | apply below_drew1 | refine below_set ?_ GE578.out | refine below_set ?_ GE579.out) | exact HB.out))) : p := h
theorem zr13 {p : Prop} (h : p := by repeat (first | (with_reducible first | exact HB.out | apply below_alloc | apply pw_below_drewN | apply below_drew1 | refine below_set ?_ GE578.out | refine below_set ?_ GE579.out) | exact HB.out)) : p := h
theorem zr14 {p : Prop} (h : p := by (with_reducible repeat (first | refine blk_drewN ?_ _ | refine blk_drew ?_ | refine blk_alloc ?_ _)); exact BK579.out) : p := h
theorem zr17 {p : Prop} (h : p := by (with_reducible repeat (first | apply Kd.R_alloc | apply Kd.R_drewN | apply Kd.R_drew)); exact HO583.out) : p := h
theorem zr18 {p : Prop} (h : p := by repeat (first | exact (Kd.R_reads' HO583.out).2.2 | (with_reducible refine Kd.C_alloc ?_ _) | (with_reducible refine Kd.C_drewN ?_ _) | (with_reducible refine Kd.C_drew ?_))) : p := h
theorem zr19 {p : Prop} (h : p := by exact (by repeat (first | (with_reducible first | exact HB.out | apply below_alloc | apply pw_below_drewN | apply below_drew1 | refine below_set ?_ GE578.out | refine below_set ?_ GE579.out) | exact HB.out))) : p := h
theorem zr20 {p : Prop} (h : p := by exact (fun k_ hk => Kd.fresh' (Kd.R_lt (by (with_reducible repeat (first | apply Kd.R_alloc | apply Kd.R_drewN | apply Kd.R_drew)); exact HO583.out)) k_ hk)) : p := h
theorem zr21 {p : Prop} (h : p := by exact (by (with_reducible repeat (first | apply Kd.R_alloc | apply Kd.R_drewN | apply Kd.R_drew)); exact Kd.R_mono HO586.out (fun _ hk => hk.2))) : p := h
theorem zr23 {p : Prop} (h : p := by exact (below_size (by repeat (first | (with_reducible first | exact HB.out | apply below_alloc | apply pw_below_drewN | apply below_drew1 | refine below_set ?_ GE578.out | refine below_set ?_ GE579.out) | exact HB.out)))) : p := h
theorem zr24 {p : Prop} (h : p := by (with_reducible repeat (first | apply Kd.R_alloc | apply Kd.R_drewN | apply Kd.R_drew)); exact HO589.out) : p := h
theorem zr25 {p : Prop} (h : p := by exact k29_mkM _ _ _ (⟨t590, t591, t592⟩ : S29)) : p := h
theorem zr26 {p : Prop} (h : p := by exact (by (with_reducible repeat (first | apply Kd.R_alloc | apply Kd.R_drewN | apply Kd.R_drew)); exact HO589.out)) : p := h
theorem zr27 {p : Prop} (h : p := by exact (Kd.R_reads' HO583.out).2.1) : p := h
theorem zr28 {p : Prop} (h : p := by (with_reducible repeat (first | apply Kd.R_alloc | apply Kd.R_drewN | apply Kd.R_drew)); exact HO595.out) : p := h
theorem zr29 {p : Prop} (h : p := by repeat (first | exact (Kd.R_reads' HO595.out).2.2 | (with_reducible refine Kd.C_alloc ?_ _) | (with_reducible refine Kd.C_drewN ?_ _) | (with_reducible refine Kd.C_drew ?_))) : p := h
theorem zr30 {p : Prop} (h : p := by exact (Kd.R_reads' HO595.out).2.1) : p := h
theorem zr31 {p : Prop} (h : p := by (try simp only [List.map_toArray, List.map_cons, List.map_nil]); first | done | (rw [show (l4.take ((ji19) : Int).toNat).length = (ji19).toNat from (by rw [List.length_take]; have h_ : ((ji19) : Int) ≤ (l4.length : Int) := of_decide_eq_true (by first | (with_reducible assumption) | assumption); omega)] <;> rfl) | (simp only [hji19]; rfl) | rfl | (simp only [List.length_drop, List.length_take]; rfl) | (simp (disch := omega) only [wrap64_of]; done) | (simp (disch := omega) only [wrap64_of]; rfl)) : p := h
theorem zr32 {p : Prop} (h : p := by rw [hg]; exact (below_size (by repeat (first | (with_reducible first | exact HB.out | apply below_alloc | apply pw_below_drewN | apply below_drew1 | refine below_set ?_ GE578.out | refine below_set ?_ GE579.out) | exact HB.out)))) : p := h
theorem zr33 {p : Prop} (h : p := by rw [hg]; exact Nat.ne_of_lt (blk_lt (g := gb579) (o := .cells #[.int .i64 a2_0, .int .i64 a2_1] 50 (0, 0)) (by (with_reducible repeat (first | refine blk_drewN ?_ _ | refine blk_drew ?_ | refine blk_alloc ?_ _)); exact BK579.out))) : p := h
theorem zr34 {p : Prop} (h : p := by rw [hg]; exact Nat.ne_of_gt (blk_lt (g := gb579) (o := .cells #[.int .i64 a2_0, .int .i64 a2_1] 50 (0, 0)) (by (with_reducible repeat (first | refine blk_drewN ?_ _ | refine blk_drew ?_ | refine blk_alloc ?_ _)); exact BK579.out))) : p := h
theorem zr35 {p : Prop} (h : p := by repeat (first | (with_reducible first | exact HB.out | apply below_alloc | apply pw_below_drewN | apply below_drew1 | refine below_set ?_ GE578.out | refine below_set ?_ GE579.out | refine below_set ?_ GE610.out) | exact HB.out)) : p := h
theorem zr36 {p : Prop} (h : p := by (with_reducible repeat (first | refine blk_drewN ?_ _ | refine blk_drew ?_ | refine blk_alloc ?_ _)); exact BK610.out) : p := h
theorem zr37 {p : Prop} (h : p := by rw [hg]; exact (below_size (by repeat (first | (with_reducible first | exact HB.out | apply below_alloc | apply pw_below_drewN | apply below_drew1 | refine below_set ?_ GE578.out | refine below_set ?_ GE579.out | refine below_set ?_ GE610.out) | exact HB.out)))) : p := h
end Go.Proofs.YtlmfoblgheepoaaGreatDoor.Z
section
open Go.Proofs.YtlmfoblgheepoaaGreatDoor.Z
namespace Go.Proofs.YtlmfoblgheepoaaGreatDoor.Pl
open Go.RowKit Go.Proofs.YtlmfoblgheepoaaGreatDoorW.PrintWords Go.Proofs.YtlmfoblgheepoaaGreatDoorW.PrintLast Go.Proofs.YtlmfoblgheepoaaGreatDoorW.PrintMore
attribute [local go_sem] max2_int min2_int max_two min_two max_three min_three max_four min_four
set_option linter.unusedVariables false
set_option linter.unusedSimpArgs false
theorem info3 : (Tryz.prog.info? 3).map (fun i => (i.zero, i.size, i.bytes)) = some (some (.int .i64 0), 1, 8) := by kernel_rfl
end Go.Proofs.YtlmfoblgheepoaaGreatDoor.Pl
end
section
open Go.Proofs.YtlmfoblgheepoaaGreatDoor.Z
namespace Go.Proofs.YtlmfoblgheepoaaGreatDoor.Pl
open Go.RowKit Go.Proofs.YtlmfoblgheepoaaGreatDoorW.PrintWords Go.Proofs.YtlmfoblgheepoaaGreatDoorW.PrintLast Go.Proofs.YtlmfoblgheepoaaGreatDoorW.PrintMore
attribute [local go_sem] max2_int min2_int max_two min_two max_three min_three max_four min_four
set_option linter.unusedVariables false
set_option linter.unusedSimpArgs false
def dialtonelaw12_text.l0 : Nat → List Int → ByteArray → Int → Option (ByteArray)
 | 0, _, _, _ => none
 | k + 1, x0, x3, x4 => if x4 < (x0.length : Int) then (if x4 < 17 then (if 0 ≤ x4 then ((dialtonelaw12_pick.f (rd x0 x4) 10).bind fun t309 => ((some (([(wrap64 (48 + t309)) % 256] : List Int) : List Int)).bind fun y310 => (if x3.size + (strOfNums y310).size ≤ 9223372036854775807 then (dialtonelaw12_text.l0 k x0 (x3 ++ (strOfNums y310)) (wrap64 (x4 + 1))) else (none)))) else (none)) else (some x3)) else (some x3)
def dialtonelaw12_text.f (k : Nat) (l0 : List Int) : Option (ByteArray) := dialtonelaw12_text.l0 k l0 (⟨#[]⟩ : ByteArray) 0
set_option maxHeartbeats 8000000 in
set_option maxRecDepth 100000 in
theorem dialtonelaw12_text.calls (k : Nat) (A0 : Option Addr) (c0 : Nat) (l0 : List Int) (r : ByteArray) (w : World) (hr0 : Kd.C (Kd.int .i64) w A0 l0.length l0) (hc0 : l0.length ≤ c0) (h : dialtonelaw12_text.f k l0 = some r) :
 Calls Tryz.prog 15 #[.slice A0 l0.length c0] w fun e w' => e = .returned (.string r) ∧ Below w.heap.size w w' := by
 have HR0 := Aside0.mk hr0
 have HC0 := Aside0.mk hc0
 clear hr0 hc0
 have HB := Aside0.mk (Below.refl w.heap.size w)
 have H : (dialtonelaw12_text.l0 k l0 (⟨#[]⟩ : ByteArray) 0) = some r := h
 clear h
 have H' := Aside0.mk H
 clear H
 go_enter Tryz.func15, Tryz.ntmps15
 go_wp2
 go_loopg [3, 4] k (fun kq v3 v4 w' => ∃ (x3_1 : ByteArray) (x4_1 : Int), v3 = .string x3_1 ∧ v4 = .int .i64 x4_1 ∧ Aside0 (dialtonelaw12_text.l0 kq l0 x3_1 x4_1 = some r) ∧ Aside0 (kq ≤ k) ∧ Aside0 (Below w.heap.size w w'))
 case atStart => exact ⟨((⟨#[]⟩ : ByteArray)), (0), (zq6), (zq6), H', ⟨Nat.le_refl _⟩, ⟨zq1⟩⟩
 case round =>
  clear H'
  try clear c1
  obtain ⟨x3_1, x4_1, rfl, rfl, HA, HK1, HB⟩ := hrel
  cases gk with
  | zero => exact absurd HA.out (by simp [dialtonelaw12_text.l0])
  | succ k1 =>
   have H := HA.out
   clear HA
   simp only [dialtonelaw12_text.l0] at H
   by_cases c2 : x4_1 < (l0.length : Int)
   rotate_left
   ·rw [if_neg c2] at H
    have c2b0 : decide (x4_1 < (l0.length : Int)) = false := decide_eq_false c2
    clear c2
    obtain rfl := Option.some.inj H
    go_wp2
    go_ret
    exact ⟨zr5, zq1⟩
   rw [if_pos c2] at H
   have c2b0 : decide (x4_1 < (l0.length : Int)) = true := decide_eq_true c2
   clear c2
   by_cases c3 : x4_1 < 17
   rotate_left
   ·rw [if_neg c3] at H
    have c3b0 : decide (x4_1 < 17) = false := decide_eq_false c3
    clear c3
    obtain rfl := Option.some.inj H
    go_wp2
    go_ret
    exact ⟨zr5, zq1⟩
   rw [if_pos c3] at H
   have c3b0 : decide (x4_1 < 17) = true := decide_eq_true c3
   clear c3
   by_cases c4 : 0 ≤ x4_1
   rotate_left
   ·rw [if_neg c4] at H
    exact absurd H (by simp)
   rw [if_pos c4] at H
   have c4b0 : decide (0 ≤ x4_1) = true := decide_eq_true c4
   clear c4
   replace H := Option.bind_eq_some_iff.mp H
   obtain ⟨t309, A50, H⟩ := H
   try dsimp only at H
   have A5 := Aside0.mk A50
   clear A50
   obtain ⟨y310, hy310⟩ : ∃ y_ : List Int, y_ = (([(wrap64 (48 + t309)) % 256] : List Int)) := ⟨_, rfl⟩
   replace H : (if x3_1.size + (strOfNums y310).size ≤ 9223372036854775807 then (dialtonelaw12_text.l0 k1 l0 (x3_1 ++ (strOfNums y310)) (wrap64 (x4_1 + 1))) else (none)) = some r := by first | (rw [hy310]; with_reducible exact H) | (have H2_ := (Option.bind_some _ _).symm.trans H; rw [hy310]; with_reducible exact H2_) | (have H2_ := (Option.bind_some _ _).symm.trans H; with_reducible exact H2_) | with_reducible exact H | (rw [hy310]; exact H) | exact H
   have Ny310 := Aside0.mk hy310
   clear hy310
   by_cases c6 : x3_1.size + (strOfNums y310).size ≤ 9223372036854775807
   rotate_left
   ·rw [if_neg c6] at H
    exact absurd H (by simp)
   rw [if_pos c6] at H
   have c6b0 := eq_true c6
   have c6b1 : decide (x3_1.size + (strOfNums y310).size ≤ 9223372036854775807) = true := decide_eq_true c6
   try have c6b2 : (9223372036854775807 < x3_1.size + (strOfNums y310).size) = False := eq_false (Nat.not_lt.2 c6)
   have H' := Aside0.mk H
   clear H
   have p308 : 0 ≤ (x4_1 : Int) := of_decide_eq_true (zq14)
   have q308 : x4_1 < (l0.length : Int) := of_decide_eq_true (zq14)
   obtain ⟨ad308, e308, hx308_0⟩ := Kd.at_int HR0.out x4_1 p308 q308
   cases e308
   replace hx308_0 := (HB.out.cell (World.block_lt_of_cell? w _ hx308_0)).trans hx308_0
   replace p308 := eq_true p308
   replace q308 := eq_true q308
   go_wp2_with (first | ((with_reducible refine gate_callee (f := 16) rfl ?_); refine goesL_ (some 20) rfl rfl Tryz.func16 (by kernel_rfl) rfl #[.int .i64 (rd l0 x4_1), .int .i64 10] rfl (zq3) ?_; (with_reducible refine (dialtonelaw12_pick.calls (rd l0 x4_1) 10 t309 _ A5.out).mono ?_); rintro e w' ⟨rfl, ⟨nd, rfl⟩⟩; refine ⟨_, rfl, ?_⟩) | ((with_reducible refine gate_dst (N := 23) rfl ?_); refine Kd.R_lit (Kd.int .u8) _ 5 ?hg (N := 23) ?hd (xs := ([(wrap64 (48 + t309)) % 256] : List Int)) (inner := [.int .u8 ((wrap64 (48 + t309)) % 256)]) (ok := fun _ => True) (okp := fun _ => True) ?hr ?hp (fun _ hk => hk) trivial (Below.refl _ _) (Nat.le_refl _) (by simp) ?_; (case hd => rfl); (case hg => rfl); (case hr => exact zq0); (case hp => exact (Reps.one (show Kd.M (Kd.int .u8) _ _ _ ((wrap64 (48 + t309)) % 256) [.int .u8 ((wrap64 (48 + t309)) % 256)] from rfl) (Reps.none _ _))); intro v311 w7 ho8 hb hg_ hnew_; clear hg_ hnew_; (first | rw [← Ny310.out] at ho8 | (simp only [Int.reduceToNat] at ho8; rw [← Ny310.out] at ho8)); have n0_ := Aside0.mk (Kd.R_lower ho8 (below_size (zq1))); have n1_ := Aside0.mk (below_step (zq1) hb); clear HB; have HO312 := n0_; have HB := n1_; clear n0_ n1_; clear hb ho8; have hcv9 := own_string (P := Tryz.prog) Tryz.underlying65 Tryz.underlying5 Tryz.underlying9 (Kd.own_of_R HO312.out)))
   go_roundg k1
   case measure => have := HK1.out; omega
   case rel => exact ⟨(x3_1 ++ (strOfNums y310)), (wrap64 (x4_1 + 1)), (zq6), (zq6), H', ⟨by have := HK1.out; omega⟩, ⟨zq1⟩⟩
end Go.Proofs.YtlmfoblgheepoaaGreatDoor.Pl
end
section
open Go.Proofs.YtlmfoblgheepoaaGreatDoor.Z
namespace Go.Proofs.YtlmfoblgheepoaaGreatDoor.Pl
open Go.RowKit Go.Proofs.YtlmfoblgheepoaaGreatDoorW.PrintWords Go.Proofs.YtlmfoblgheepoaaGreatDoorW.PrintLast Go.Proofs.YtlmfoblgheepoaaGreatDoorW.PrintMore
attribute [local go_sem] max2_int min2_int max_two min_two max_three min_three max_four min_four
set_option linter.unusedVariables false
set_option linter.unusedSimpArgs false
attribute [local go_sem high] eqA44
def dialtonelaw12_PlanGrows.f (k : Nat) (l0 : List (S23)) (a1_0 : Int) (a1_1 : Int) (a1_2 : Int) (a2_0 : Int) (a2_1 : Int) (a3 : Int) (l4 : List Int) : Option (Bool) := (dialtonelaw12_sane.f k).bind fun t580 => (if t580 = true then ((dialtoneref12_Made.f k l0).bind fun t581 => ((some (([] : List (S29)) : List (S29))).bind fun y584 => (if y584.length + t581.length < 3518437208883 then ((some (y584 ++ t581 : List (S29))).bind fun y587 => ((dialtoneref12_One.f k a1_0 a1_1 a1_2).bind fun bt590 => (if y587.length < 3518437208883 then ((some (y587 ++ [(⟨bt590.1, bt590.2.1, bt590.2.2⟩ : S29)] : List (S29))).bind fun y593 => ((dialtonelaw12_pick.f a3 3).bind fun t596 => ((dialtoneref12_Number.f k t581 a2_0 a2_1).bind fun t597 => ((plan_Write.f k t581 t597 (wrap64 (1 + t596))).bind fun bt598 => ((plan_Write.f k y593 t597 (wrap64 (1 + t596))).bind fun bt600 => ((plan_Valid.f k y593).bind fun t602 => (if t602 = true then (if bt598.2 = 0 then (if 0 ≤ (mn (l4.length : Int) 8) then (if (mn (l4.length : Int) 8) ≤ (l4.length : Int) then ((dialtonelaw12_text.f k (l4.take ((mn (l4.length : Int) 8) : Int).toNat)).bind fun t604 => (if bt598.1.size + t604.size ≤ 9223372036854775807 then ((plan_Read.f k t581 (bt598.1 ++ t604) (wrap64 (1 + t596))).bind fun bt605 => ((dialtonelaw12_text.f k (l4.take ((mn (l4.length : Int) 8) : Int).toNat)).bind fun t612 => (if bt598.1.size + t612.size ≤ 9223372036854775807 then ((plan_Read.f k y593 (bt598.1 ++ t612) (wrap64 (1 + t596))).bind fun bt613 => (if bt600.2 = 0 then (if bt598.1.toList = bt600.1.toList then (if bt605.2.2.2.2 = 0 then (if bt613.2.2.2.2 = 0 then (if (bt605.1 == bt613.1 && (bt605.2.1 == bt613.2.1 && (bt605.2.2.1 == bt613.2.2.1 && (bt605.2.2.2.1 == bt613.2.2.2.1)))) = true then (some (bt605.1 == 2)) else (none)) else (none)) else (none)) else (none)) else (none))) else (none)))) else (none))) else (none)) else (none)) else (some true)) else (if bt600.2 = 120 then (some (bt600.1.toList == ([] : List UInt8))) else (none))))))))) else (none)))) else (none)))) else (none))
def dialtonelaw12_PlanGrows.T5 : Bool × List (List Nat × List Nat) := (true, [([], []), ([], []), ([0, 1], [0, 1]), ([], []), ([3, 2], [3]), ([4], [4]), ([2, 5, 4], [2, 5]), ([6, 6, 0, 1, 2, 3, 4, 5, 6], [6])])
def dialtonelaw12_PlanGrows.B5 : List Nat := [0, 0, 3, 0, 15, 31, 63, 127]
theorem dialtonelaw12_PlanGrows.tab5 : rtab .any (opsOf Tryz.f10 5) = dialtonelaw12_PlanGrows.T5 := by kernel_rfl
theorem dialtonelaw12_PlanGrows.bits5 : waitsOk dialtonelaw12_PlanGrows.T5.2 dialtonelaw12_PlanGrows.B5 = true := by kernel_rfl
set_option maxHeartbeats 8000000 in
set_option maxRecDepth 100000 in
theorem dialtonelaw12_PlanGrows.calls (k : Nat) (A0 : Option Addr) (c0 : Nat) (l0 : List (S23)) (a1_0 : Int) (a1_1 : Int) (a1_2 : Int) (a2_0 : Int) (a2_1 : Int) (a3 : Int) (A4 : Option Addr) (c4 : Nat) (l4 : List Int) (r : Bool) (w : World) (hr0 : Kd.C k23 w A0 l0.length l0) (hc0 : l0.length ≤ c0) (hr4 : Kd.C (Kd.int .i64) w A4 l4.length l4) (hc4 : l4.length ≤ c4) (hG : Glb w) (h : dialtonelaw12_PlanGrows.f k l0 a1_0 a1_1 a1_2 a2_0 a2_1 a3 l4 = some r) :
 Calls Tryz.prog 10 #[.slice A0 l0.length c0, .agg #[.int .i64 a1_0, .int .i64 a1_1, .int .i64 a1_2], .agg #[.int .i64 a2_0, .int .i64 a2_1], .int .i64 a3, .slice A4 l4.length c4] w fun e w' => e = .returned (.bool r) ∧ Below w.heap.size w w' := by
 have HGLB := Aside0.mk hG
 clear hG
 have hu23 := Tryz.underlying23
 have hu50 := Tryz.underlying50
 have hu44 := Tryz.underlying44
 have HR0 := Aside0.mk hr0
 have HC0 := Aside0.mk hc0
 clear hr0 hc0
 have HR4 := Aside0.mk hr4
 have HC4 := Aside0.mk hc4
 clear hr4 hc4
 have HB := Aside0.mk (Below.refl w.heap.size w)
 have H : ((dialtonelaw12_sane.f k).bind fun t580 => (if t580 = true then ((dialtoneref12_Made.f k l0).bind fun t581 => ((some (([] : List (S29)) : List (S29))).bind fun y584 => (if y584.length + t581.length < 3518437208883 then ((some (y584 ++ t581 : List (S29))).bind fun y587 => ((dialtoneref12_One.f k a1_0 a1_1 a1_2).bind fun bt590 => (if y587.length < 3518437208883 then ((some (y587 ++ [(⟨bt590.1, bt590.2.1, bt590.2.2⟩ : S29)] : List (S29))).bind fun y593 => ((dialtonelaw12_pick.f a3 3).bind fun t596 => ((dialtoneref12_Number.f k t581 a2_0 a2_1).bind fun t597 => ((plan_Write.f k t581 t597 (wrap64 (1 + t596))).bind fun bt598 => ((plan_Write.f k y593 t597 (wrap64 (1 + t596))).bind fun bt600 => ((plan_Valid.f k y593).bind fun t602 => (if t602 = true then (if bt598.2 = 0 then (if 0 ≤ (mn (l4.length : Int) 8) then (if (mn (l4.length : Int) 8) ≤ (l4.length : Int) then ((dialtonelaw12_text.f k (l4.take ((mn (l4.length : Int) 8) : Int).toNat)).bind fun t604 => (if bt598.1.size + t604.size ≤ 9223372036854775807 then ((plan_Read.f k t581 (bt598.1 ++ t604) (wrap64 (1 + t596))).bind fun bt605 => ((dialtonelaw12_text.f k (l4.take ((mn (l4.length : Int) 8) : Int).toNat)).bind fun t612 => (if bt598.1.size + t612.size ≤ 9223372036854775807 then ((plan_Read.f k y593 (bt598.1 ++ t612) (wrap64 (1 + t596))).bind fun bt613 => (if bt600.2 = 0 then (if bt598.1.toList = bt600.1.toList then (if bt605.2.2.2.2 = 0 then (if bt613.2.2.2.2 = 0 then (if (bt605.1 == bt613.1 && (bt605.2.1 == bt613.2.1 && (bt605.2.2.1 == bt613.2.2.1 && (bt605.2.2.2.1 == bt613.2.2.2.1)))) = true then (some (bt605.1 == 2)) else (none)) else (none)) else (none)) else (none)) else (none))) else (none)))) else (none))) else (none)) else (none)) else (some true)) else (if bt600.2 = 120 then (some (bt600.1.toList == ([] : List UInt8))) else (none))))))))) else (none)))) else (none)))) else (none))) = some r := h
 clear h
 replace H := Option.bind_eq_some_iff.mp H
 obtain ⟨t580, A60, H⟩ := H
 try dsimp only at H
 have A6 := Aside0.mk A60
 clear A60
 by_cases c7 : t580 = true
 rotate_left
 ·replace c7 := Bool.eq_false_iff.mpr c7
  subst c7
  rw [if_neg (show ¬ (false = true) by decide)] at H
  exact absurd H (by simp)
 subst c7
 rw [if_pos rfl] at H
 replace H := Option.bind_eq_some_iff.mp H
 obtain ⟨t581, A80, H⟩ := H
 try dsimp only at H
 have A8 := Aside0.mk A80
 clear A80
 obtain ⟨y584, hy584⟩ : ∃ y_ : List (S29), y_ = (([] : List (S29))) := ⟨_, rfl⟩
 replace H : (if y584.length + t581.length < 3518437208883 then ((some (y584 ++ t581 : List (S29))).bind fun y587 => ((dialtoneref12_One.f k a1_0 a1_1 a1_2).bind fun bt590 => (if y587.length < 3518437208883 then ((some (y587 ++ [(⟨bt590.1, bt590.2.1, bt590.2.2⟩ : S29)] : List (S29))).bind fun y593 => ((dialtonelaw12_pick.f a3 3).bind fun t596 => ((dialtoneref12_Number.f k t581 a2_0 a2_1).bind fun t597 => ((plan_Write.f k t581 t597 (wrap64 (1 + t596))).bind fun bt598 => ((plan_Write.f k y593 t597 (wrap64 (1 + t596))).bind fun bt600 => ((plan_Valid.f k y593).bind fun t602 => (if t602 = true then (if bt598.2 = 0 then (if 0 ≤ (mn (l4.length : Int) 8) then (if (mn (l4.length : Int) 8) ≤ (l4.length : Int) then ((dialtonelaw12_text.f k (l4.take ((mn (l4.length : Int) 8) : Int).toNat)).bind fun t604 => (if bt598.1.size + t604.size ≤ 9223372036854775807 then ((plan_Read.f k t581 (bt598.1 ++ t604) (wrap64 (1 + t596))).bind fun bt605 => ((dialtonelaw12_text.f k (l4.take ((mn (l4.length : Int) 8) : Int).toNat)).bind fun t612 => (if bt598.1.size + t612.size ≤ 9223372036854775807 then ((plan_Read.f k y593 (bt598.1 ++ t612) (wrap64 (1 + t596))).bind fun bt613 => (if bt600.2 = 0 then (if bt598.1.toList = bt600.1.toList then (if bt605.2.2.2.2 = 0 then (if bt613.2.2.2.2 = 0 then (if (bt605.1 == bt613.1 && (bt605.2.1 == bt613.2.1 && (bt605.2.2.1 == bt613.2.2.1 && (bt605.2.2.2.1 == bt613.2.2.2.1)))) = true then (some (bt605.1 == 2)) else (none)) else (none)) else (none)) else (none)) else (none))) else (none)))) else (none))) else (none)) else (none)) else (some true)) else (if bt600.2 = 120 then (some (bt600.1.toList == ([] : List UInt8))) else (none))))))))) else (none)))) else (none)) = some r := by first | (rw [hy584]; with_reducible exact H) | (have H2_ := (Option.bind_some _ _).symm.trans H; rw [hy584]; with_reducible exact H2_) | (have H2_ := (Option.bind_some _ _).symm.trans H; with_reducible exact H2_) | with_reducible exact H | (rw [hy584]; exact H) | exact H
 have Ny584 := Aside0.mk hy584
 clear hy584
 by_cases c9 : y584.length + t581.length < 3518437208883
 rotate_left
 ·rw [if_neg c9] at H
  exact absurd H (by simp)
 rw [if_pos c9] at H
 have LMc9 := Aside0.mk c9
 clear c9
 obtain ⟨y587, hy587⟩ : ∃ y_ : List (S29), y_ = (y584 ++ t581) := ⟨_, rfl⟩
 replace H : ((dialtoneref12_One.f k a1_0 a1_1 a1_2).bind fun bt590 => (if y587.length < 3518437208883 then ((some (y587 ++ [(⟨bt590.1, bt590.2.1, bt590.2.2⟩ : S29)] : List (S29))).bind fun y593 => ((dialtonelaw12_pick.f a3 3).bind fun t596 => ((dialtoneref12_Number.f k t581 a2_0 a2_1).bind fun t597 => ((plan_Write.f k t581 t597 (wrap64 (1 + t596))).bind fun bt598 => ((plan_Write.f k y593 t597 (wrap64 (1 + t596))).bind fun bt600 => ((plan_Valid.f k y593).bind fun t602 => (if t602 = true then (if bt598.2 = 0 then (if 0 ≤ (mn (l4.length : Int) 8) then (if (mn (l4.length : Int) 8) ≤ (l4.length : Int) then ((dialtonelaw12_text.f k (l4.take ((mn (l4.length : Int) 8) : Int).toNat)).bind fun t604 => (if bt598.1.size + t604.size ≤ 9223372036854775807 then ((plan_Read.f k t581 (bt598.1 ++ t604) (wrap64 (1 + t596))).bind fun bt605 => ((dialtonelaw12_text.f k (l4.take ((mn (l4.length : Int) 8) : Int).toNat)).bind fun t612 => (if bt598.1.size + t612.size ≤ 9223372036854775807 then ((plan_Read.f k y593 (bt598.1 ++ t612) (wrap64 (1 + t596))).bind fun bt613 => (if bt600.2 = 0 then (if bt598.1.toList = bt600.1.toList then (if bt605.2.2.2.2 = 0 then (if bt613.2.2.2.2 = 0 then (if (bt605.1 == bt613.1 && (bt605.2.1 == bt613.2.1 && (bt605.2.2.1 == bt613.2.2.1 && (bt605.2.2.2.1 == bt613.2.2.2.1)))) = true then (some (bt605.1 == 2)) else (none)) else (none)) else (none)) else (none)) else (none))) else (none)))) else (none))) else (none)) else (none)) else (some true)) else (if bt600.2 = 120 then (some (bt600.1.toList == ([] : List UInt8))) else (none))))))))) else (none))) = some r := by first | (rw [hy587]; with_reducible exact H) | (have H2_ := (Option.bind_some _ _).symm.trans H; rw [hy587]; with_reducible exact H2_) | (have H2_ := (Option.bind_some _ _).symm.trans H; with_reducible exact H2_) | with_reducible exact H | (rw [hy587]; exact H) | exact H
 have Ny587 := Aside0.mk hy587
 clear hy587
 replace H := Option.bind_eq_some_iff.mp H
 obtain ⟨⟨t590, t591, t592⟩, A100, H⟩ := H
 try dsimp only at H
 have A10 := Aside0.mk A100
 clear A100
 by_cases c11 : y587.length < 3518437208883
 rotate_left
 ·rw [if_neg c11] at H
  exact absurd H (by simp)
 rw [if_pos c11] at H
 have LMc11 := Aside0.mk c11
 clear c11
 obtain ⟨y593, hy593⟩ : ∃ y_ : List (S29), y_ = (y587 ++ [(⟨t590, t591, t592⟩ : S29)]) := ⟨_, rfl⟩
 replace H : ((dialtonelaw12_pick.f a3 3).bind fun t596 => ((dialtoneref12_Number.f k t581 a2_0 a2_1).bind fun t597 => ((plan_Write.f k t581 t597 (wrap64 (1 + t596))).bind fun bt598 => ((plan_Write.f k y593 t597 (wrap64 (1 + t596))).bind fun bt600 => ((plan_Valid.f k y593).bind fun t602 => (if t602 = true then (if bt598.2 = 0 then (if 0 ≤ (mn (l4.length : Int) 8) then (if (mn (l4.length : Int) 8) ≤ (l4.length : Int) then ((dialtonelaw12_text.f k (l4.take ((mn (l4.length : Int) 8) : Int).toNat)).bind fun t604 => (if bt598.1.size + t604.size ≤ 9223372036854775807 then ((plan_Read.f k t581 (bt598.1 ++ t604) (wrap64 (1 + t596))).bind fun bt605 => ((dialtonelaw12_text.f k (l4.take ((mn (l4.length : Int) 8) : Int).toNat)).bind fun t612 => (if bt598.1.size + t612.size ≤ 9223372036854775807 then ((plan_Read.f k y593 (bt598.1 ++ t612) (wrap64 (1 + t596))).bind fun bt613 => (if bt600.2 = 0 then (if bt598.1.toList = bt600.1.toList then (if bt605.2.2.2.2 = 0 then (if bt613.2.2.2.2 = 0 then (if (bt605.1 == bt613.1 && (bt605.2.1 == bt613.2.1 && (bt605.2.2.1 == bt613.2.2.1 && (bt605.2.2.2.1 == bt613.2.2.2.1)))) = true then (some (bt605.1 == 2)) else (none)) else (none)) else (none)) else (none)) else (none))) else (none)))) else (none))) else (none)) else (none)) else (some true)) else (if bt600.2 = 120 then (some (bt600.1.toList == ([] : List UInt8))) else (none)))))))) = some r := by first | (rw [hy593]; with_reducible exact H) | (have H2_ := (Option.bind_some _ _).symm.trans H; rw [hy593]; with_reducible exact H2_) | (have H2_ := (Option.bind_some _ _).symm.trans H; with_reducible exact H2_) | with_reducible exact H | (rw [hy593]; exact H) | exact H
 have Ny593 := Aside0.mk hy593
 clear hy593
 replace H := Option.bind_eq_some_iff.mp H
 obtain ⟨t596, A120, H⟩ := H
 try dsimp only at H
 have A12 := Aside0.mk A120
 clear A120
 replace H := Option.bind_eq_some_iff.mp H
 obtain ⟨t597, A130, H⟩ := H
 try dsimp only at H
 have A13 := Aside0.mk A130
 clear A130
 replace H := Option.bind_eq_some_iff.mp H
 obtain ⟨⟨t598, t599⟩, A140, H⟩ := H
 try dsimp only at H
 have A14 := Aside0.mk A140
 clear A140
 replace H := Option.bind_eq_some_iff.mp H
 obtain ⟨⟨t600, t601⟩, A150, H⟩ := H
 try dsimp only at H
 have A15 := Aside0.mk A150
 clear A150
 replace H := Option.bind_eq_some_iff.mp H
 obtain ⟨t602, A160, H⟩ := H
 try dsimp only at H
 have A16 := Aside0.mk A160
 clear A160
 by_cases c17 : t602 = true
 rotate_left
 ·replace c17 := Bool.eq_false_iff.mpr c17
  subst c17
  rw [if_neg (show ¬ (false = true) by decide)] at H
  by_cases c87 : t601 = 120
  rotate_left
  ·rw [if_neg c87] at H
   exact absurd H (by simp)
  rw [if_pos c87] at H
  have c87b0 : (t601 == 120) = true := beq_iff_eq.mpr c87
  have c87b1 : (t601 != 120) = false := bne_eq_false_iff_eq.mpr c87
  clear c87
  obtain rfl := Option.some.inj H
  go_enter Tryz.func10, Tryz.ntmps10
  try go_wp2_with (first | ((with_reducible refine gate_dst (N := 6) rfl ?_); refine box_event ?hg (N := 6) ?hd (cs := #[.int .i64 a1_0, .int .i64 a1_1, .int .i64 a1_2]) (t := 23) ?hr ?_; (case hd => rfl); (case hg => rfl); (case hr => exact zq0); intro gb578 hg w88 hbox hb; have n0_ := Aside0.mk (below_step (zq1) hb); have n1_ := Aside0.mk (hbox); have n2_ := Aside0.mk ((zq2 : w.heap.size ≤ gb578)); have n3_ := Aside0.mk ((zq2 : w.heap.size ≤ gb578)); clear HB; have HB := n0_; have BK578 := n1_; have GW578 := n2_; have GE578 := n3_; clear n0_ n1_ n2_ n3_; clear hb hbox hg) | ((with_reducible refine gate_dst (N := 7) rfl ?_); refine box_event ?hg (N := 7) ?hd (cs := #[.int .i64 a2_0, .int .i64 a2_1]) (t := 50) ?hr ?_; (case hd => rfl); (case hg => rfl); (case hr => exact zq0); intro gb579 hg w89 hbox hb; have n0_ := Aside0.mk (blk_below (g := gb578) (o := .cells #[.int .i64 a1_0, .int .i64 a1_1, .int .i64 a1_2] 23 (0, 0)) (zr7) hb); have n1_ := Aside0.mk (below_step (zr8) hb); have n2_ := Aside0.mk (hbox); have n3_ := Aside0.mk ((zr9 : w.heap.size ≤ gb579)); have n4_ := Aside0.mk ((zr9 : w.heap.size ≤ gb579)); have n5_ := Aside0.mk ((zr10 : gb578 ≠ gb579)); have n6_ := Aside0.mk ((zr11 : gb579 ≠ gb578)); clear BK578; clear HB; have BK578 := n0_; have HB := n1_; have BK579 := n2_; have GW579 := n3_; have GE579 := n4_; have NB578_579 := n5_; have NB579_578 := n6_; clear n0_ n1_ n2_ n3_ n4_ n5_ n6_; clear hb hbox hg) | ((with_reducible refine gate_callee (f := 11) rfl ?_); refine goesL_ (some 24) rfl rfl Tryz.func11 (by kernel_rfl) rfl #[] rfl (zq3) ?_; (with_reducible refine (dialtonelaw12_sane.calls k  true _ ?side1 A6.out).mono ?_); (case side1 => exact zr12); rintro e w90 ⟨rfl, hb⟩; refine ⟨_, rfl, ?_⟩; have n0_ := Aside0.mk (blk_below (g := gb578) (o := .cells #[.int .i64 a1_0, .int .i64 a1_1, .int .i64 a1_2] 23 (0, 0)) (zr7) hb); have n1_ := Aside0.mk (blk_below (g := gb579) (o := .cells #[.int .i64 a2_0, .int .i64 a2_1] 50 (0, 0)) (zr14) hb); have n2_ := Aside0.mk (below_step (zr13) hb); clear BK578; clear BK579; clear HB; have BK578 := n0_; have BK579 := n1_; have HB := n2_; clear n0_ n1_ n2_; (try clear hb); (try clear hb2); (try clear hk); (try clear hi)) | ((with_reducible refine gate_callee (f := 12) rfl ?_); refine goesL_ (some 28) rfl rfl Tryz.func12 (by kernel_rfl) rfl #[.slice A0 l0.length c0] rfl (zq3) ?_; (with_reducible refine (dialtoneref12_Made.calls k _ _ l0 t581 _ ?side1 ?side2 A8.out).mono ?_); (case side1 => exact zq25); (case side2 => exact zq26); rintro e w91 ⟨v582, rfl, ho0, hb⟩; refine ⟨_, rfl, ?_⟩; have n0_ := Aside0.mk (Kd.R_lower ho0 (below_size (zr13))); have n1_ := Aside0.mk (blk_below (g := gb578) (o := .cells #[.int .i64 a1_0, .int .i64 a1_1, .int .i64 a1_2] 23 (0, 0)) (zr7) hb); have n2_ := Aside0.mk (blk_below (g := gb579) (o := .cells #[.int .i64 a2_0, .int .i64 a2_1] 50 (0, 0)) (zr14) hb); have n3_ := Aside0.mk (below_step (zr13) hb); clear BK578; clear BK579; clear HB; have HO583 := n0_; have BK578 := n1_; have BK579 := n2_; have HB := n3_; clear n0_ n1_ n2_ n3_; (try clear hb); (try clear hb2); (try clear hk); (try clear hi); (try clear ho0)))
  have n0_ := Aside0.mk (Kd.R_drew HO583.out)
  have n1_ := Aside0.mk (blk_drew BK578.out)
  have n2_ := Aside0.mk (blk_drew BK579.out)
  have n3_ := Aside0.mk (below_drew1 HB.out)
  clear HO583
  clear BK578
  clear BK579
  clear HB
  have HO583 := n0_
  have BK578 := n1_
  have BK579 := n2_
  have HB := n3_
  clear n0_ n1_ n2_ n3_
  refine start_ (n := 8) (S := fun w' => w'.cell? ⟨gb578, 0, none⟩ = some (.int .i64 a1_0) ∧ w'.cell? ⟨gb578, 1, none⟩ = some (.int .i64 a1_1) ∧ w'.cell? ⟨gb578, 2, none⟩ = some (.int .i64 a1_2)) (ds := []) #[false, false, false, false, false, false, false, false] (by kernel_rfl) rfl rfl ⟨(blk_cell BK578.out 0).trans rfl, (blk_cell BK578.out 1).trans rfl, (blk_cell BK578.out 2).trans rfl⟩ (fun hHeld => ?_); refine with_tabW dialtonelaw12_PlanGrows.tab5 dialtonelaw12_PlanGrows.bits5 (fun HT_ HW_ => ?_)
  generalize w91.drew = w92 at HO583 BK578 BK579 HB hHeld ⊢
  refine pure_ (i := 1) (N := some 30) (v := ?_) (a' := ?_) #[false, true, false, false, false, false, false, false] rfl rfl (any_of HT_.out (by kernel_rfl)) (fun _ _ _ h => h) (Or.inl ⟨by rfl, ?_⟩) ?_ ?_
  rotate_left
  ·intro w'
   go_simp
   with_reducible rfl
  rotate_left
  ·simp only [Act.put, List.setIfInBounds_toArray, List.set_cons_zero, List.set_cons_succ, i64_w, i32_w]
   rfl
  refine take_ (i := 3) (N := some 32) (v := ?_) (a' := ?_) #[false, true, false, true, false, false, false, false] rfl rfl (take_ofW HT_.out HW_.out (by kernel_rfl)) (fun _ _ _ h => h) (Or.inl ⟨by rfl, ?_⟩) hHeld ?_ ?_
  rotate_left
  ·rintro w' ⟨s0, s1, s2⟩
   go_simp
   with_reducible rfl
  rotate_left
  ·simp only [Act.put, List.setIfInBounds_toArray, List.set_cons_zero, List.set_cons_succ, i64_w, i32_w]
   rfl
  refine one_ (i := 0) (N := some 29) #[true, true, false, true, false, false, false, false] rfl rfl (one_of HT_.out (by kernel_rfl)) (by decide) (fun K hK => ?_)
  refine Kd.R_lit_step k29 _ 29 ?hg (N := 29) ?hd (xs := ([] : List (S29))) (inner := []) (ok := fun _ => True) (okp := fun _ => True) ?hr ?hp (fun _ hk => hk) trivial (Below.refl _ _) (Nat.le_refl _) (by simp) ?_; (case hd => rfl); (case hg => rfl); (case hr => exact zq0); (case hp => exact (Reps.none _ _))
  intro v585 w93 ho94 hb hg_ hnew_
  clear hg_ hnew_
  (first | rw [← Ny584.out] at ho94 | (simp only [Int.reduceToNat] at ho94; rw [← Ny584.out] at ho94))
  have n0_ := Aside0.mk (Kd.R_elder' (zr17) (Kd.R_base ho94) hb)
  have n1_ := Aside0.mk (Kd.R_lower (Kd.R_new' ho94 (Kd.R_lt (zr17))) (below_size (zr13)))
  have n2_ := Aside0.mk (blk_below (g := gb578) (o := .cells #[.int .i64 a1_0, .int .i64 a1_1, .int .i64 a1_2] 23 (0, 0)) (zr7) hb)
  have n3_ := Aside0.mk (blk_below (g := gb579) (o := .cells #[.int .i64 a2_0, .int .i64 a2_1] 50 (0, 0)) (zr14) hb)
  have n4_ := Aside0.mk (below_step (zr13) hb)
  clear HO583
  clear BK578
  clear BK579
  clear HB
  have HO583 := n0_
  have HO586 := n1_
  have BK578 := n2_
  have BK579 := n3_
  have HB := n4_
  clear n0_ n1_ n2_ n3_ n4_
  clear hb ho94
  obtain ⟨Ao96, co96, eo96⟩ := Kd.R_slice HO583.out
  (first | subst eo96 | (injection eo96 with f1_ f2_ f3_; have f4_ := f1_.symm; have f5_ := f3_.symm; clear f1_ f2_ f3_; subst f4_; subst f5_))
  refine hK.out _ _ ⟨(blk_cell BK578.out 0).trans rfl, (blk_cell BK578.out 1).trans rfl, (blk_cell BK578.out 2).trans rfl⟩ (fun hHeld => ?_)
  clear hK K
  refine norm_ (a' := ?_) ?_ ?_
  rotate_left
  ·show Act.put _ (some 29) _ = _
   simp only [Act.put, List.setIfInBounds_toArray, List.set_cons_zero, List.set_cons_succ, i64_w, i32_w]
   rfl
  refine one_ (i := 2) (N := some 31) #[true, true, true, true, false, false, false, false] rfl rfl (one_of HT_.out (by kernel_rfl)) (by decide) (fun K hK => ?_)
  refine Kd.R_append_rows_step k29 (w0 := w) w.heap.size (by rfl) (.tmp 29) (.tmp 30) 24 29 (.agg #[(.string ⟨#[]⟩), (.string ⟨#[]⟩), (.int .i64 0)]) 40 rfl Tryz.underlying24 info29 rfl (by decide) (by omega) v585 y584 t581 _ _ _ (fun k_ => some k_ ≠ (.slice Ao96 t581.length co96 : Value).ownBlock) (fun _ => False) rfl rfl ?aO ?aR (fun _ _ h => h) (fun _ h => h.elim) ?aF ?aB ?aS ?aL ?_
  (case aR => exact zr18)
  (case aB => exact zr19)
  (case aF => exact zr20)
  (case aO => exact zr21)
  (case aS => exact zr23)
  (case aL => have := LMc9.out; omega)
  intro v588 w95 ho hb hg hat
  rw [← Ny587.out] at ho
  have n0_ := Aside0.mk (blk_grown (g := gb578) (o := .cells #[.int .i64 a1_0, .int .i64 a1_1, .int .i64 a1_2] 23 (0, 0)) (zr7) hg (Kd.R_ne HO586.out BK578.out (by decide)))
  have n1_ := Aside0.mk (blk_grown (g := gb579) (o := .cells #[.int .i64 a2_0, .int .i64 a2_1] 50 (0, 0)) (zr14) hg (Kd.R_ne HO586.out BK579.out (by decide)))
  have n2_ := Aside0.mk (Kd.R_after (ok := (fun _ => True)) (zr17) hg hat)
  have n3_ := Aside0.mk (hb)
  have n4_ := Aside0.mk (ho)
  clear BK578
  clear BK579
  clear HO583
  clear HB
  clear HO586
  have BK578 := n0_
  have BK579 := n1_
  have HO583 := n2_
  have HB := n3_
  have HO589 := n4_
  clear n0_ n1_ n2_ n3_ n4_
  clear ho hb hg hat
  refine hK.out _ _ ⟨(blk_cell BK578.out 0).trans rfl, (blk_cell BK578.out 1).trans rfl, (blk_cell BK578.out 2).trans rfl⟩ (fun hHeld => ?_)
  clear hK K
  refine norm_ (a' := ?_) ?_ ?_
  rotate_left
  ·show Act.put _ (some 31) _ = _
   simp only [Act.put, List.setIfInBounds_toArray, List.set_cons_zero, List.set_cons_succ, i64_w, i32_w]
   rfl
  refine one_ (i := 4) (N := some 33) #[true, true, true, true, true, false, false, false] rfl rfl (one_of HT_.out (by kernel_rfl)) (by decide) (fun K hK => ?_)
  refine goes_ Tryz.func29 (by kernel_rfl) rfl #[.agg #[.int .i64 a1_0, .int .i64 a1_1, .int .i64 a1_2]] (by rfl) rfl rfl (zq3) ?_
  with_reducible refine (dialtoneref12_One.calls k a1_0 a1_1 a1_2 t590 t591 t592 _ A10.out).mono ?_
  rintro e w97 ⟨rfl, hb⟩
  refine ⟨_, rfl, ?_⟩
  have n0_ := Aside0.mk (Kd.R_below (zr17) hb)
  have n1_ := Aside0.mk (Kd.R_below (zr24) hb)
  have n2_ := Aside0.mk (blk_below (g := gb578) (o := .cells #[.int .i64 a1_0, .int .i64 a1_1, .int .i64 a1_2] 23 (0, 0)) (zr7) hb)
  have n3_ := Aside0.mk (blk_below (g := gb579) (o := .cells #[.int .i64 a2_0, .int .i64 a2_1] 50 (0, 0)) (zr14) hb)
  have n4_ := Aside0.mk (below_step (zr13) hb)
  clear HO583
  clear HO589
  clear BK578
  clear BK579
  clear HB
  have HO583 := n0_
  have HO589 := n1_
  have BK578 := n2_
  have BK579 := n3_
  have HB := n4_
  clear n0_ n1_ n2_ n3_ n4_
  (try clear hb)
  (try clear hb2)
  (try clear hk)
  (try clear hi)
  refine hK.out _ _ ⟨(blk_cell BK578.out 0).trans rfl, (blk_cell BK578.out 1).trans rfl, (blk_cell BK578.out 2).trans rfl⟩ (fun hHeld => ?_)
  clear hK K
  refine norm_ (a' := ?_) ?_ ?_
  rotate_left
  ·show Act.put _ (some 33) _ = _
   simp only [Act.put, List.setIfInBounds_toArray, List.set_cons_zero, List.set_cons_succ, i64_w, i32_w]
   rfl
  refine one_ (i := 5) (N := some 34) #[true, true, true, true, true, true, false, false] rfl rfl (one_of HT_.out (by kernel_rfl)) (by decide) (fun K hK => ?_)
  refine value_ (w1 := ?_) (v := ?_) (by rfl) rfl ?_ ?_
  rotate_left 2
  ·go_simp
   constructor
   ·rfl
   ·rfl
  refine hK.out _ _ ⟨(blk_cell (blk_alloc BK578.out _) 0).trans rfl, (blk_cell (blk_alloc BK578.out _) 1).trans rfl, (blk_cell (blk_alloc BK578.out _) 2).trans rfl⟩ (fun hHeld => ?_)
  clear hK K
  refine norm_ (a' := ?_) ?_ ?_
  rotate_left
  ·show Act.put _ (some 34) _ = _
   simp only [Act.put, List.setIfInBounds_toArray, List.set_cons_zero, List.set_cons_succ, i64_w, i32_w]
   rfl
  refine one_ (i := 6) (N := some 35) #[true, true, true, true, true, true, true, false] rfl rfl (one_of HT_.out (by kernel_rfl)) (by decide) (fun K hK => ?_)
  refine Kd.R_append_step k29 (w0 := w) w.heap.size (by rfl) (.tmp 31) (.tmp 34) 24 29 (.agg #[(.string ⟨#[]⟩), (.string ⟨#[]⟩), (.int .i64 0)]) 40 rfl Tryz.underlying24 info29 rfl (by decide) (by omega) v588 y587 (⟨t590, t591, t592⟩ : S29) [.string t590, .string t591, .int .i64 t592] (fun k_ => some k_ ≠ (.slice Ao96 t581.length co96 : Value).ownBlock) (fun _ => False) rfl rfl ?aP (fun _ hk => hk.elim) ?aF ?aO ?aB ?aS ?aL ?_
  (case aP => exact zr25)
  (case aB => exact zr19)
  (case aF => exact zr20)
  (case aO => exact zr26)
  (case aS => exact zr23)
  (case aL => have := LMc11.out; omega)
  intro v594 w98 ho hb hg hat
  rw [← Ny593.out] at ho
  have n0_ := Aside0.mk (blk_grown (g := gb578) (o := .cells #[.int .i64 a1_0, .int .i64 a1_1, .int .i64 a1_2] 23 (0, 0)) (zr7) hg (Kd.R_ne HO589.out BK578.out (by decide)))
  have n1_ := Aside0.mk (blk_grown (g := gb579) (o := .cells #[.int .i64 a2_0, .int .i64 a2_1] 50 (0, 0)) (zr14) hg (Kd.R_ne HO589.out BK579.out (by decide)))
  have n2_ := Aside0.mk (Kd.R_after (ok := (fun _ => True)) (zr17) hg hat)
  have n3_ := Aside0.mk (hb)
  have n4_ := Aside0.mk (ho)
  clear BK578
  clear BK579
  clear HO583
  clear HB
  clear HO589
  have BK578 := n0_
  have BK579 := n1_
  have HO583 := n2_
  have HB := n3_
  have HO595 := n4_
  clear n0_ n1_ n2_ n3_ n4_
  clear ho hb hg hat
  refine hK.out _ _ ⟨(blk_cell BK578.out 0).trans rfl, (blk_cell BK578.out 1).trans rfl, (blk_cell BK578.out 2).trans rfl⟩ (fun hHeld => ?_)
  clear hK K
  refine norm_ (a' := ?_) ?_ ?_
  rotate_left
  ·show Act.put _ (some 35) _ = _
   simp only [Act.put, List.setIfInBounds_toArray, List.set_cons_zero, List.set_cons_succ, i64_w, i32_w]
   rfl
  refine pure_ (i := 7) (N := some 13) (v := ?_) (a' := ?_) #[true, true, true, true, true, true, true, true] rfl rfl (any_of HT_.out (by kernel_rfl)) (fun _ _ _ h => h) (Or.inl ⟨by rfl, ?_⟩) ?_ ?_
  rotate_left
  ·intro w'
   go_simp
   with_reducible rfl
  rotate_left
  ·simp only [Act.put, List.setIfInBounds_toArray, List.set_cons_zero, List.set_cons_succ, i64_w, i32_w]
   rfl
  refine done_ (done_of HT_.out (by kernel_rfl)) ?_
  try go_wp2_with (first | ((with_reducible refine gate_callee (f := 16) rfl ?_); refine goesL_ (some 37) rfl rfl Tryz.func16 (by kernel_rfl) rfl #[.int .i64 a3, .int .i64 3] rfl (zq3) ?_; (with_reducible refine (dialtonelaw12_pick.calls a3 3 t596 _ A12.out).mono ?_); rintro e w' ⟨rfl, ⟨nd, rfl⟩⟩; refine ⟨_, rfl, ?_⟩; have hnb99 := NB579_578.out; have hnc99 := NB578_579.out; have hcz100_0 : w98.cell? ⟨gb579, 0, none⟩ = some (.int .i64 a2_0) := (blk_cell BK579.out 0).trans rfl; have hcz100_1 : w98.cell? ⟨gb579, 1, none⟩ = some (.int .i64 a2_1) := (blk_cell BK579.out 1).trans rfl; have hfz100_0 := blk_frozen BK579.out 0; have hfz100_1 := blk_frozen BK579.out 1) | ((with_reducible refine gate_callee (f := 13) rfl ?_); refine goesL_ (some 44) rfl rfl Tryz.func13 (by kernel_rfl) rfl #[.slice Ao96 t581.length co96, .int .i64 a2_0, .int .i64 a2_1] rfl (zq3) ?_; (with_reducible refine (dialtoneref12_Number.calls k _ _ t581 a2_0 a2_1 t597 _ ?side1 ?side2 A13.out).mono ?_); (case side1 => exact zr18); (case side2 => exact zr27); rintro e w101 ⟨rfl, hb⟩; refine ⟨_, rfl, ?_⟩; have n0_ := Aside0.mk (Kd.R_below (zr17) hb); have n1_ := Aside0.mk (Kd.R_below (zr28) hb); have n2_ := Aside0.mk (blk_below (g := gb578) (o := .cells #[.int .i64 a1_0, .int .i64 a1_1, .int .i64 a1_2] 23 (0, 0)) (zr7) hb); have n3_ := Aside0.mk (blk_below (g := gb579) (o := .cells #[.int .i64 a2_0, .int .i64 a2_1] 50 (0, 0)) (zr14) hb); have n4_ := Aside0.mk (below_step (zr13) hb); clear HO583; clear HO595; clear BK578; clear BK579; clear HB; have HO583 := n0_; have HO595 := n1_; have BK578 := n2_; have BK579 := n3_; have HB := n4_; clear n0_ n1_ n2_ n3_ n4_; (try clear hb); (try clear hb2); (try clear hk); (try clear hi)) | ((with_reducible refine gate_callee (f := 17) rfl ?_); refine goesL_ (some 49) rfl rfl Tryz.func17 (by kernel_rfl) rfl #[.slice Ao96 t581.length co96, .int .i64 t597, .int .i64 (wrap64 (1 + t596))] rfl (zq3) ?_; (with_reducible refine (plan_Write.calls k _ _ t581 t597 (wrap64 (1 + t596)) t598 t599 _ ?side1 ?side2 ?side3 A14.out).mono ?_); (case side1 => exact zr18); (case side2 => exact zr27); (case side3 => exact zr12); rintro e w102 ⟨rfl, hb⟩; refine ⟨_, rfl, ?_⟩; have n0_ := Aside0.mk (Kd.R_below (zr17) hb); have n1_ := Aside0.mk (Kd.R_below (zr28) hb); have n2_ := Aside0.mk (blk_below (g := gb578) (o := .cells #[.int .i64 a1_0, .int .i64 a1_1, .int .i64 a1_2] 23 (0, 0)) (zr7) hb); have n3_ := Aside0.mk (blk_below (g := gb579) (o := .cells #[.int .i64 a2_0, .int .i64 a2_1] 50 (0, 0)) (zr14) hb); have n4_ := Aside0.mk (below_step (zr13) hb); clear HO583; clear HO595; clear BK578; clear BK579; clear HB; have HO583 := n0_; have HO595 := n1_; have BK578 := n2_; have BK579 := n3_; have HB := n4_; clear n0_ n1_ n2_ n3_ n4_; (try clear hb); (try clear hb2); (try clear hk); (try clear hi); obtain ⟨Ao103, co103, eo103⟩ := Kd.R_slice HO595.out; subst eo103) | ((with_reducible refine gate_callee (f := 17) rfl ?_); refine goesL_ (some 56) rfl rfl Tryz.func17 (by kernel_rfl) rfl #[.slice Ao103 y593.length co103, .int .i64 t597, .int .i64 (wrap64 (1 + t596))] rfl (zq3) ?_; (with_reducible refine (plan_Write.calls k _ _ y593 t597 (wrap64 (1 + t596)) t600 t601 _ ?side1 ?side2 ?side3 A15.out).mono ?_); (case side1 => exact zr29); (case side2 => exact zr30); (case side3 => exact zr12); rintro e w104 ⟨rfl, hb⟩; refine ⟨_, rfl, ?_⟩; have n0_ := Aside0.mk (Kd.R_below (zr17) hb); have n1_ := Aside0.mk (Kd.R_below (zr28) hb); have n2_ := Aside0.mk (blk_below (g := gb578) (o := .cells #[.int .i64 a1_0, .int .i64 a1_1, .int .i64 a1_2] 23 (0, 0)) (zr7) hb); have n3_ := Aside0.mk (blk_below (g := gb579) (o := .cells #[.int .i64 a2_0, .int .i64 a2_1] 50 (0, 0)) (zr14) hb); have n4_ := Aside0.mk (below_step (zr13) hb); clear HO583; clear HO595; clear BK578; clear BK579; clear HB; have HO583 := n0_; have HO595 := n1_; have BK578 := n2_; have BK579 := n3_; have HB := n4_; clear n0_ n1_ n2_ n3_ n4_; (try clear hb); (try clear hb2); (try clear hk); (try clear hi)) | ((with_reducible refine gate_callee (f := 25) rfl ?_); refine goesL_ (some 60) rfl rfl Tryz.func25 (by kernel_rfl) rfl #[.slice Ao103 y593.length co103] rfl (zq3) ?_; (with_reducible refine (plan_Valid.calls k _ _ y593 false _ ?side1 ?side2 A16.out).mono ?_); (case side1 => exact zr29); (case side2 => exact zr30); rintro e w105 ⟨rfl, hb⟩; refine ⟨_, rfl, ?_⟩; have n0_ := Aside0.mk (Kd.R_below (zr17) hb); have n1_ := Aside0.mk (Kd.R_below (zr28) hb); have n2_ := Aside0.mk (blk_below (g := gb578) (o := .cells #[.int .i64 a1_0, .int .i64 a1_1, .int .i64 a1_2] 23 (0, 0)) (zr7) hb); have n3_ := Aside0.mk (blk_below (g := gb579) (o := .cells #[.int .i64 a2_0, .int .i64 a2_1] 50 (0, 0)) (zr14) hb); have n4_ := Aside0.mk (below_step (zr13) hb); clear HO583; clear HO595; clear BK578; clear BK579; clear HB; have HO583 := n0_; have HO595 := n1_; have BK578 := n2_; have BK579 := n3_; have HB := n4_; clear n0_ n1_ n2_ n3_ n4_; (try clear hb); (try clear hb2); (try clear hk); (try clear hi)))
  go_ret
  exact ⟨zr5, zr13⟩
 subst c17
 rw [if_pos rfl] at H
 by_cases c18 : t599 = 0
 rotate_left
 ·rw [if_neg c18] at H
  have c18b0 : (t599 == 0) = false := beq_eq_false_iff_ne.mpr c18
  have c18b1 : (t599 != 0) = true := bne_iff_ne.mpr c18
  obtain rfl := Option.some.inj H
  go_enter Tryz.func10, Tryz.ntmps10
  try go_wp2_with (first | ((with_reducible refine gate_dst (N := 6) rfl ?_); refine box_event ?hg (N := 6) ?hd (cs := #[.int .i64 a1_0, .int .i64 a1_1, .int .i64 a1_2]) (t := 23) ?hr ?_; (case hd => rfl); (case hg => rfl); (case hr => exact zq0); intro gb578 hg w69 hbox hb; have n0_ := Aside0.mk (below_step (zq1) hb); have n1_ := Aside0.mk (hbox); have n2_ := Aside0.mk ((zq2 : w.heap.size ≤ gb578)); have n3_ := Aside0.mk ((zq2 : w.heap.size ≤ gb578)); clear HB; have HB := n0_; have BK578 := n1_; have GW578 := n2_; have GE578 := n3_; clear n0_ n1_ n2_ n3_; clear hb hbox hg) | ((with_reducible refine gate_dst (N := 7) rfl ?_); refine box_event ?hg (N := 7) ?hd (cs := #[.int .i64 a2_0, .int .i64 a2_1]) (t := 50) ?hr ?_; (case hd => rfl); (case hg => rfl); (case hr => exact zq0); intro gb579 hg w70 hbox hb; have n0_ := Aside0.mk (blk_below (g := gb578) (o := .cells #[.int .i64 a1_0, .int .i64 a1_1, .int .i64 a1_2] 23 (0, 0)) (zr7) hb); have n1_ := Aside0.mk (below_step (zr8) hb); have n2_ := Aside0.mk (hbox); have n3_ := Aside0.mk ((zr9 : w.heap.size ≤ gb579)); have n4_ := Aside0.mk ((zr9 : w.heap.size ≤ gb579)); have n5_ := Aside0.mk ((zr10 : gb578 ≠ gb579)); have n6_ := Aside0.mk ((zr11 : gb579 ≠ gb578)); clear BK578; clear HB; have BK578 := n0_; have HB := n1_; have BK579 := n2_; have GW579 := n3_; have GE579 := n4_; have NB578_579 := n5_; have NB579_578 := n6_; clear n0_ n1_ n2_ n3_ n4_ n5_ n6_; clear hb hbox hg) | ((with_reducible refine gate_callee (f := 11) rfl ?_); refine goesL_ (some 24) rfl rfl Tryz.func11 (by kernel_rfl) rfl #[] rfl (zq3) ?_; (with_reducible refine (dialtonelaw12_sane.calls k  true _ ?side1 A6.out).mono ?_); (case side1 => exact zr12); rintro e w71 ⟨rfl, hb⟩; refine ⟨_, rfl, ?_⟩; have n0_ := Aside0.mk (blk_below (g := gb578) (o := .cells #[.int .i64 a1_0, .int .i64 a1_1, .int .i64 a1_2] 23 (0, 0)) (zr7) hb); have n1_ := Aside0.mk (blk_below (g := gb579) (o := .cells #[.int .i64 a2_0, .int .i64 a2_1] 50 (0, 0)) (zr14) hb); have n2_ := Aside0.mk (below_step (zr13) hb); clear BK578; clear BK579; clear HB; have BK578 := n0_; have BK579 := n1_; have HB := n2_; clear n0_ n1_ n2_; (try clear hb); (try clear hb2); (try clear hk); (try clear hi)) | ((with_reducible refine gate_callee (f := 12) rfl ?_); refine goesL_ (some 28) rfl rfl Tryz.func12 (by kernel_rfl) rfl #[.slice A0 l0.length c0] rfl (zq3) ?_; (with_reducible refine (dialtoneref12_Made.calls k _ _ l0 t581 _ ?side1 ?side2 A8.out).mono ?_); (case side1 => exact zq25); (case side2 => exact zq26); rintro e w72 ⟨v582, rfl, ho0, hb⟩; refine ⟨_, rfl, ?_⟩; have n0_ := Aside0.mk (Kd.R_lower ho0 (below_size (zr13))); have n1_ := Aside0.mk (blk_below (g := gb578) (o := .cells #[.int .i64 a1_0, .int .i64 a1_1, .int .i64 a1_2] 23 (0, 0)) (zr7) hb); have n2_ := Aside0.mk (blk_below (g := gb579) (o := .cells #[.int .i64 a2_0, .int .i64 a2_1] 50 (0, 0)) (zr14) hb); have n3_ := Aside0.mk (below_step (zr13) hb); clear BK578; clear BK579; clear HB; have HO583 := n0_; have BK578 := n1_; have BK579 := n2_; have HB := n3_; clear n0_ n1_ n2_ n3_; (try clear hb); (try clear hb2); (try clear hk); (try clear hi); (try clear ho0)))
  have n0_ := Aside0.mk (Kd.R_drew HO583.out)
  have n1_ := Aside0.mk (blk_drew BK578.out)
  have n2_ := Aside0.mk (blk_drew BK579.out)
  have n3_ := Aside0.mk (below_drew1 HB.out)
  clear HO583
  clear BK578
  clear BK579
  clear HB
  have HO583 := n0_
  have BK578 := n1_
  have BK579 := n2_
  have HB := n3_
  clear n0_ n1_ n2_ n3_
  refine start_ (n := 8) (S := fun w' => w'.cell? ⟨gb578, 0, none⟩ = some (.int .i64 a1_0) ∧ w'.cell? ⟨gb578, 1, none⟩ = some (.int .i64 a1_1) ∧ w'.cell? ⟨gb578, 2, none⟩ = some (.int .i64 a1_2)) (ds := []) #[false, false, false, false, false, false, false, false] (by kernel_rfl) rfl rfl ⟨(blk_cell BK578.out 0).trans rfl, (blk_cell BK578.out 1).trans rfl, (blk_cell BK578.out 2).trans rfl⟩ (fun hHeld => ?_); refine with_tabW dialtonelaw12_PlanGrows.tab5 dialtonelaw12_PlanGrows.bits5 (fun HT_ HW_ => ?_)
  generalize w72.drew = w73 at HO583 BK578 BK579 HB hHeld ⊢
  refine pure_ (i := 1) (N := some 30) (v := ?_) (a' := ?_) #[false, true, false, false, false, false, false, false] rfl rfl (any_of HT_.out (by kernel_rfl)) (fun _ _ _ h => h) (Or.inl ⟨by rfl, ?_⟩) ?_ ?_
  rotate_left
  ·intro w'
   go_simp
   with_reducible rfl
  rotate_left
  ·simp only [Act.put, List.setIfInBounds_toArray, List.set_cons_zero, List.set_cons_succ, i64_w, i32_w]
   rfl
  refine take_ (i := 3) (N := some 32) (v := ?_) (a' := ?_) #[false, true, false, true, false, false, false, false] rfl rfl (take_ofW HT_.out HW_.out (by kernel_rfl)) (fun _ _ _ h => h) (Or.inl ⟨by rfl, ?_⟩) hHeld ?_ ?_
  rotate_left
  ·rintro w' ⟨s0, s1, s2⟩
   go_simp
   with_reducible rfl
  rotate_left
  ·simp only [Act.put, List.setIfInBounds_toArray, List.set_cons_zero, List.set_cons_succ, i64_w, i32_w]
   rfl
  refine one_ (i := 0) (N := some 29) #[true, true, false, true, false, false, false, false] rfl rfl (one_of HT_.out (by kernel_rfl)) (by decide) (fun K hK => ?_)
  refine Kd.R_lit_step k29 _ 29 ?hg (N := 29) ?hd (xs := ([] : List (S29))) (inner := []) (ok := fun _ => True) (okp := fun _ => True) ?hr ?hp (fun _ hk => hk) trivial (Below.refl _ _) (Nat.le_refl _) (by simp) ?_; (case hd => rfl); (case hg => rfl); (case hr => exact zq0); (case hp => exact (Reps.none _ _))
  intro v585 w74 ho75 hb hg_ hnew_
  clear hg_ hnew_
  (first | rw [← Ny584.out] at ho75 | (simp only [Int.reduceToNat] at ho75; rw [← Ny584.out] at ho75))
  have n0_ := Aside0.mk (Kd.R_elder' (zr17) (Kd.R_base ho75) hb)
  have n1_ := Aside0.mk (Kd.R_lower (Kd.R_new' ho75 (Kd.R_lt (zr17))) (below_size (zr13)))
  have n2_ := Aside0.mk (blk_below (g := gb578) (o := .cells #[.int .i64 a1_0, .int .i64 a1_1, .int .i64 a1_2] 23 (0, 0)) (zr7) hb)
  have n3_ := Aside0.mk (blk_below (g := gb579) (o := .cells #[.int .i64 a2_0, .int .i64 a2_1] 50 (0, 0)) (zr14) hb)
  have n4_ := Aside0.mk (below_step (zr13) hb)
  clear HO583
  clear BK578
  clear BK579
  clear HB
  have HO583 := n0_
  have HO586 := n1_
  have BK578 := n2_
  have BK579 := n3_
  have HB := n4_
  clear n0_ n1_ n2_ n3_ n4_
  clear hb ho75
  obtain ⟨Ao77, co77, eo77⟩ := Kd.R_slice HO583.out
  (first | subst eo77 | (injection eo77 with f1_ f2_ f3_; have f4_ := f1_.symm; have f5_ := f3_.symm; clear f1_ f2_ f3_; subst f4_; subst f5_))
  refine hK.out _ _ ⟨(blk_cell BK578.out 0).trans rfl, (blk_cell BK578.out 1).trans rfl, (blk_cell BK578.out 2).trans rfl⟩ (fun hHeld => ?_)
  clear hK K
  refine norm_ (a' := ?_) ?_ ?_
  rotate_left
  ·show Act.put _ (some 29) _ = _
   simp only [Act.put, List.setIfInBounds_toArray, List.set_cons_zero, List.set_cons_succ, i64_w, i32_w]
   rfl
  refine one_ (i := 2) (N := some 31) #[true, true, true, true, false, false, false, false] rfl rfl (one_of HT_.out (by kernel_rfl)) (by decide) (fun K hK => ?_)
  refine Kd.R_append_rows_step k29 (w0 := w) w.heap.size (by rfl) (.tmp 29) (.tmp 30) 24 29 (.agg #[(.string ⟨#[]⟩), (.string ⟨#[]⟩), (.int .i64 0)]) 40 rfl Tryz.underlying24 info29 rfl (by decide) (by omega) v585 y584 t581 _ _ _ (fun k_ => some k_ ≠ (.slice Ao77 t581.length co77 : Value).ownBlock) (fun _ => False) rfl rfl ?aO ?aR (fun _ _ h => h) (fun _ h => h.elim) ?aF ?aB ?aS ?aL ?_
  (case aR => exact zr18)
  (case aB => exact zr19)
  (case aF => exact zr20)
  (case aO => exact zr21)
  (case aS => exact zr23)
  (case aL => have := LMc9.out; omega)
  intro v588 w76 ho hb hg hat
  rw [← Ny587.out] at ho
  have n0_ := Aside0.mk (blk_grown (g := gb578) (o := .cells #[.int .i64 a1_0, .int .i64 a1_1, .int .i64 a1_2] 23 (0, 0)) (zr7) hg (Kd.R_ne HO586.out BK578.out (by decide)))
  have n1_ := Aside0.mk (blk_grown (g := gb579) (o := .cells #[.int .i64 a2_0, .int .i64 a2_1] 50 (0, 0)) (zr14) hg (Kd.R_ne HO586.out BK579.out (by decide)))
  have n2_ := Aside0.mk (Kd.R_after (ok := (fun _ => True)) (zr17) hg hat)
  have n3_ := Aside0.mk (hb)
  have n4_ := Aside0.mk (ho)
  clear BK578
  clear BK579
  clear HO583
  clear HB
  clear HO586
  have BK578 := n0_
  have BK579 := n1_
  have HO583 := n2_
  have HB := n3_
  have HO589 := n4_
  clear n0_ n1_ n2_ n3_ n4_
  clear ho hb hg hat
  refine hK.out _ _ ⟨(blk_cell BK578.out 0).trans rfl, (blk_cell BK578.out 1).trans rfl, (blk_cell BK578.out 2).trans rfl⟩ (fun hHeld => ?_)
  clear hK K
  refine norm_ (a' := ?_) ?_ ?_
  rotate_left
  ·show Act.put _ (some 31) _ = _
   simp only [Act.put, List.setIfInBounds_toArray, List.set_cons_zero, List.set_cons_succ, i64_w, i32_w]
   rfl
  refine one_ (i := 4) (N := some 33) #[true, true, true, true, true, false, false, false] rfl rfl (one_of HT_.out (by kernel_rfl)) (by decide) (fun K hK => ?_)
  refine goes_ Tryz.func29 (by kernel_rfl) rfl #[.agg #[.int .i64 a1_0, .int .i64 a1_1, .int .i64 a1_2]] (by rfl) rfl rfl (zq3) ?_
  with_reducible refine (dialtoneref12_One.calls k a1_0 a1_1 a1_2 t590 t591 t592 _ A10.out).mono ?_
  rintro e w78 ⟨rfl, hb⟩
  refine ⟨_, rfl, ?_⟩
  have n0_ := Aside0.mk (Kd.R_below (zr17) hb)
  have n1_ := Aside0.mk (Kd.R_below (zr24) hb)
  have n2_ := Aside0.mk (blk_below (g := gb578) (o := .cells #[.int .i64 a1_0, .int .i64 a1_1, .int .i64 a1_2] 23 (0, 0)) (zr7) hb)
  have n3_ := Aside0.mk (blk_below (g := gb579) (o := .cells #[.int .i64 a2_0, .int .i64 a2_1] 50 (0, 0)) (zr14) hb)
  have n4_ := Aside0.mk (below_step (zr13) hb)
  clear HO583
  clear HO589
  clear BK578
  clear BK579
  clear HB
  have HO583 := n0_
  have HO589 := n1_
  have BK578 := n2_
  have BK579 := n3_
  have HB := n4_
  clear n0_ n1_ n2_ n3_ n4_
  (try clear hb)
  (try clear hb2)
  (try clear hk)
  (try clear hi)
  refine hK.out _ _ ⟨(blk_cell BK578.out 0).trans rfl, (blk_cell BK578.out 1).trans rfl, (blk_cell BK578.out 2).trans rfl⟩ (fun hHeld => ?_)
  clear hK K
  refine norm_ (a' := ?_) ?_ ?_
  rotate_left
  ·show Act.put _ (some 33) _ = _
   simp only [Act.put, List.setIfInBounds_toArray, List.set_cons_zero, List.set_cons_succ, i64_w, i32_w]
   rfl
  refine one_ (i := 5) (N := some 34) #[true, true, true, true, true, true, false, false] rfl rfl (one_of HT_.out (by kernel_rfl)) (by decide) (fun K hK => ?_)
  refine value_ (w1 := ?_) (v := ?_) (by rfl) rfl ?_ ?_
  rotate_left 2
  ·go_simp
   constructor
   ·rfl
   ·rfl
  refine hK.out _ _ ⟨(blk_cell (blk_alloc BK578.out _) 0).trans rfl, (blk_cell (blk_alloc BK578.out _) 1).trans rfl, (blk_cell (blk_alloc BK578.out _) 2).trans rfl⟩ (fun hHeld => ?_)
  clear hK K
  refine norm_ (a' := ?_) ?_ ?_
  rotate_left
  ·show Act.put _ (some 34) _ = _
   simp only [Act.put, List.setIfInBounds_toArray, List.set_cons_zero, List.set_cons_succ, i64_w, i32_w]
   rfl
  refine one_ (i := 6) (N := some 35) #[true, true, true, true, true, true, true, false] rfl rfl (one_of HT_.out (by kernel_rfl)) (by decide) (fun K hK => ?_)
  refine Kd.R_append_step k29 (w0 := w) w.heap.size (by rfl) (.tmp 31) (.tmp 34) 24 29 (.agg #[(.string ⟨#[]⟩), (.string ⟨#[]⟩), (.int .i64 0)]) 40 rfl Tryz.underlying24 info29 rfl (by decide) (by omega) v588 y587 (⟨t590, t591, t592⟩ : S29) [.string t590, .string t591, .int .i64 t592] (fun k_ => some k_ ≠ (.slice Ao77 t581.length co77 : Value).ownBlock) (fun _ => False) rfl rfl ?aP (fun _ hk => hk.elim) ?aF ?aO ?aB ?aS ?aL ?_
  (case aP => exact zr25)
  (case aB => exact zr19)
  (case aF => exact zr20)
  (case aO => exact zr26)
  (case aS => exact zr23)
  (case aL => have := LMc11.out; omega)
  intro v594 w79 ho hb hg hat
  rw [← Ny593.out] at ho
  have n0_ := Aside0.mk (blk_grown (g := gb578) (o := .cells #[.int .i64 a1_0, .int .i64 a1_1, .int .i64 a1_2] 23 (0, 0)) (zr7) hg (Kd.R_ne HO589.out BK578.out (by decide)))
  have n1_ := Aside0.mk (blk_grown (g := gb579) (o := .cells #[.int .i64 a2_0, .int .i64 a2_1] 50 (0, 0)) (zr14) hg (Kd.R_ne HO589.out BK579.out (by decide)))
  have n2_ := Aside0.mk (Kd.R_after (ok := (fun _ => True)) (zr17) hg hat)
  have n3_ := Aside0.mk (hb)
  have n4_ := Aside0.mk (ho)
  clear BK578
  clear BK579
  clear HO583
  clear HB
  clear HO589
  have BK578 := n0_
  have BK579 := n1_
  have HO583 := n2_
  have HB := n3_
  have HO595 := n4_
  clear n0_ n1_ n2_ n3_ n4_
  clear ho hb hg hat
  refine hK.out _ _ ⟨(blk_cell BK578.out 0).trans rfl, (blk_cell BK578.out 1).trans rfl, (blk_cell BK578.out 2).trans rfl⟩ (fun hHeld => ?_)
  clear hK K
  refine norm_ (a' := ?_) ?_ ?_
  rotate_left
  ·show Act.put _ (some 35) _ = _
   simp only [Act.put, List.setIfInBounds_toArray, List.set_cons_zero, List.set_cons_succ, i64_w, i32_w]
   rfl
  refine pure_ (i := 7) (N := some 13) (v := ?_) (a' := ?_) #[true, true, true, true, true, true, true, true] rfl rfl (any_of HT_.out (by kernel_rfl)) (fun _ _ _ h => h) (Or.inl ⟨by rfl, ?_⟩) ?_ ?_
  rotate_left
  ·intro w'
   go_simp
   with_reducible rfl
  rotate_left
  ·simp only [Act.put, List.setIfInBounds_toArray, List.set_cons_zero, List.set_cons_succ, i64_w, i32_w]
   rfl
  refine done_ (done_of HT_.out (by kernel_rfl)) ?_
  try go_wp2_with (first | ((with_reducible refine gate_callee (f := 16) rfl ?_); refine goesL_ (some 37) rfl rfl Tryz.func16 (by kernel_rfl) rfl #[.int .i64 a3, .int .i64 3] rfl (zq3) ?_; (with_reducible refine (dialtonelaw12_pick.calls a3 3 t596 _ A12.out).mono ?_); rintro e w' ⟨rfl, ⟨nd, rfl⟩⟩; refine ⟨_, rfl, ?_⟩; have hnb80 := NB579_578.out; have hnc80 := NB578_579.out; have hcz81_0 : w79.cell? ⟨gb579, 0, none⟩ = some (.int .i64 a2_0) := (blk_cell BK579.out 0).trans rfl; have hcz81_1 : w79.cell? ⟨gb579, 1, none⟩ = some (.int .i64 a2_1) := (blk_cell BK579.out 1).trans rfl; have hfz81_0 := blk_frozen BK579.out 0; have hfz81_1 := blk_frozen BK579.out 1) | ((with_reducible refine gate_callee (f := 13) rfl ?_); refine goesL_ (some 44) rfl rfl Tryz.func13 (by kernel_rfl) rfl #[.slice Ao77 t581.length co77, .int .i64 a2_0, .int .i64 a2_1] rfl (zq3) ?_; (with_reducible refine (dialtoneref12_Number.calls k _ _ t581 a2_0 a2_1 t597 _ ?side1 ?side2 A13.out).mono ?_); (case side1 => exact zr18); (case side2 => exact zr27); rintro e w82 ⟨rfl, hb⟩; refine ⟨_, rfl, ?_⟩; have n0_ := Aside0.mk (Kd.R_below (zr17) hb); have n1_ := Aside0.mk (Kd.R_below (zr28) hb); have n2_ := Aside0.mk (blk_below (g := gb578) (o := .cells #[.int .i64 a1_0, .int .i64 a1_1, .int .i64 a1_2] 23 (0, 0)) (zr7) hb); have n3_ := Aside0.mk (blk_below (g := gb579) (o := .cells #[.int .i64 a2_0, .int .i64 a2_1] 50 (0, 0)) (zr14) hb); have n4_ := Aside0.mk (below_step (zr13) hb); clear HO583; clear HO595; clear BK578; clear BK579; clear HB; have HO583 := n0_; have HO595 := n1_; have BK578 := n2_; have BK579 := n3_; have HB := n4_; clear n0_ n1_ n2_ n3_ n4_; (try clear hb); (try clear hb2); (try clear hk); (try clear hi)) | ((with_reducible refine gate_callee (f := 17) rfl ?_); refine goesL_ (some 49) rfl rfl Tryz.func17 (by kernel_rfl) rfl #[.slice Ao77 t581.length co77, .int .i64 t597, .int .i64 (wrap64 (1 + t596))] rfl (zq3) ?_; (with_reducible refine (plan_Write.calls k _ _ t581 t597 (wrap64 (1 + t596)) t598 t599 _ ?side1 ?side2 ?side3 A14.out).mono ?_); (case side1 => exact zr18); (case side2 => exact zr27); (case side3 => exact zr12); rintro e w83 ⟨rfl, hb⟩; refine ⟨_, rfl, ?_⟩; have n0_ := Aside0.mk (Kd.R_below (zr17) hb); have n1_ := Aside0.mk (Kd.R_below (zr28) hb); have n2_ := Aside0.mk (blk_below (g := gb578) (o := .cells #[.int .i64 a1_0, .int .i64 a1_1, .int .i64 a1_2] 23 (0, 0)) (zr7) hb); have n3_ := Aside0.mk (blk_below (g := gb579) (o := .cells #[.int .i64 a2_0, .int .i64 a2_1] 50 (0, 0)) (zr14) hb); have n4_ := Aside0.mk (below_step (zr13) hb); clear HO583; clear HO595; clear BK578; clear BK579; clear HB; have HO583 := n0_; have HO595 := n1_; have BK578 := n2_; have BK579 := n3_; have HB := n4_; clear n0_ n1_ n2_ n3_ n4_; (try clear hb); (try clear hb2); (try clear hk); (try clear hi); obtain ⟨Ao84, co84, eo84⟩ := Kd.R_slice HO595.out; subst eo84) | ((with_reducible refine gate_callee (f := 17) rfl ?_); refine goesL_ (some 56) rfl rfl Tryz.func17 (by kernel_rfl) rfl #[.slice Ao84 y593.length co84, .int .i64 t597, .int .i64 (wrap64 (1 + t596))] rfl (zq3) ?_; (with_reducible refine (plan_Write.calls k _ _ y593 t597 (wrap64 (1 + t596)) t600 t601 _ ?side1 ?side2 ?side3 A15.out).mono ?_); (case side1 => exact zr29); (case side2 => exact zr30); (case side3 => exact zr12); rintro e w85 ⟨rfl, hb⟩; refine ⟨_, rfl, ?_⟩; have n0_ := Aside0.mk (Kd.R_below (zr17) hb); have n1_ := Aside0.mk (Kd.R_below (zr28) hb); have n2_ := Aside0.mk (blk_below (g := gb578) (o := .cells #[.int .i64 a1_0, .int .i64 a1_1, .int .i64 a1_2] 23 (0, 0)) (zr7) hb); have n3_ := Aside0.mk (blk_below (g := gb579) (o := .cells #[.int .i64 a2_0, .int .i64 a2_1] 50 (0, 0)) (zr14) hb); have n4_ := Aside0.mk (below_step (zr13) hb); clear HO583; clear HO595; clear BK578; clear BK579; clear HB; have HO583 := n0_; have HO595 := n1_; have BK578 := n2_; have BK579 := n3_; have HB := n4_; clear n0_ n1_ n2_ n3_ n4_; (try clear hb); (try clear hb2); (try clear hk); (try clear hi)) | ((with_reducible refine gate_callee (f := 25) rfl ?_); refine goesL_ (some 60) rfl rfl Tryz.func25 (by kernel_rfl) rfl #[.slice Ao84 y593.length co84] rfl (zq3) ?_; (with_reducible refine (plan_Valid.calls k _ _ y593 true _ ?side1 ?side2 A16.out).mono ?_); (case side1 => exact zr29); (case side2 => exact zr30); rintro e w86 ⟨rfl, hb⟩; refine ⟨_, rfl, ?_⟩; have n0_ := Aside0.mk (Kd.R_below (zr17) hb); have n1_ := Aside0.mk (Kd.R_below (zr28) hb); have n2_ := Aside0.mk (blk_below (g := gb578) (o := .cells #[.int .i64 a1_0, .int .i64 a1_1, .int .i64 a1_2] 23 (0, 0)) (zr7) hb); have n3_ := Aside0.mk (blk_below (g := gb579) (o := .cells #[.int .i64 a2_0, .int .i64 a2_1] 50 (0, 0)) (zr14) hb); have n4_ := Aside0.mk (below_step (zr13) hb); clear HO583; clear HO595; clear BK578; clear BK579; clear HB; have HO583 := n0_; have HO595 := n1_; have BK578 := n2_; have BK579 := n3_; have HB := n4_; clear n0_ n1_ n2_ n3_ n4_; (try clear hb); (try clear hb2); (try clear hk); (try clear hi)))
  go_ret
  exact ⟨zr5, zr13⟩
 rw [if_pos c18] at H
 have c18b0 : (t599 == 0) = true := beq_iff_eq.mpr c18
 have c18b1 : (t599 != 0) = false := bne_eq_false_iff_eq.mpr c18
 clear c18
 obtain ⟨ji19, hji19⟩ : ∃ j_ : Int, (mn (l4.length : Int) 8) = j_ := ⟨_, rfl⟩
 replace H : (if 0 ≤ (ji19) then (if (ji19) ≤ (l4.length : Int) then ((dialtonelaw12_text.f k (l4.take ((ji19) : Int).toNat)).bind fun t604 => (if t598.size + t604.size ≤ 9223372036854775807 then ((plan_Read.f k t581 (t598 ++ t604) (wrap64 (1 + t596))).bind fun bt605 => ((dialtonelaw12_text.f k (l4.take ((ji19) : Int).toNat)).bind fun t612 => (if t598.size + t612.size ≤ 9223372036854775807 then ((plan_Read.f k y593 (t598 ++ t612) (wrap64 (1 + t596))).bind fun bt613 => (if t601 = 0 then (if t598.toList = t600.toList then (if bt605.2.2.2.2 = 0 then (if bt613.2.2.2.2 = 0 then (if (bt605.1 == bt613.1 && (bt605.2.1 == bt613.2.1 && (bt605.2.2.1 == bt613.2.2.1 && (bt605.2.2.2.1 == bt613.2.2.2.1)))) = true then (some (bt605.1 == 2)) else (none)) else (none)) else (none)) else (none)) else (none))) else (none)))) else (none))) else (none)) else (none)) = some r := by first | (rw [hji19] at H; exact H) | (simp only [hji19] at H ⊢; exact H)
 (try rw [hji19] at A6)
 (try rw [hji19] at A8)
 (try rw [hji19] at A10)
 (try rw [hji19] at A12)
 (try rw [hji19] at A13)
 (try rw [hji19] at A14)
 (try rw [hji19] at A15)
 (try rw [hji19] at A16)
 (try (have hji19h : ji19 ≤ 8 := by (rw [← hji19]; unfold mn; (repeat' split) <;> omega)))
 (try (have hji19g : ji19 ≤ 64 := by omega))
 (try (have hji19l : 0 ≤ ji19 := by (rw [← hji19]; unfold mn; (repeat' split) <;> omega)))
 (try (have hji19m : 0 ≤ ji19 := by omega))
 have hji19_ : (if 8 < (l4.length : Int) then 8 else (l4.length : Int)) = ji19 := hji19
 by_cases c20 : 0 ≤ (ji19)
 rotate_left
 ·rw [if_neg c20] at H
  exact absurd H (by simp)
 rw [if_pos c20] at H
 have c20b0 := eq_true c20
 have c20b1 : decide (0 ≤ (ji19)) = true := decide_eq_true c20
 clear c20
 by_cases c21 : (ji19) ≤ (l4.length : Int)
 rotate_left
 ·rw [if_neg c21] at H
  exact absurd H (by simp)
 rw [if_pos c21] at H
 have c21b0 := eq_true c21
 have c21b1 : decide ((ji19) ≤ (l4.length : Int)) = true := decide_eq_true c21
 clear c21
 replace H := Option.bind_eq_some_iff.mp H
 obtain ⟨t604, A220, H⟩ := H
 try dsimp only at H
 have A22 := Aside0.mk A220
 clear A220
 by_cases c23 : t598.size + t604.size ≤ 9223372036854775807
 rotate_left
 ·rw [if_neg c23] at H
  exact absurd H (by simp)
 rw [if_pos c23] at H
 have c23b0 := eq_true c23
 have c23b1 : decide (t598.size + t604.size ≤ 9223372036854775807) = true := decide_eq_true c23
 try have c23b2 : (9223372036854775807 < t598.size + t604.size) = False := eq_false (Nat.not_lt.2 c23)
 replace H := Option.bind_eq_some_iff.mp H
 obtain ⟨⟨t605, t606, t607, t608, t609⟩, A240, H⟩ := H
 try dsimp only at H
 have A24 := Aside0.mk A240
 clear A240
 have c25b0 := eq_true (of_decide_eq_true (zq14) : 0 ≤ (ji19))
 have c26b0 := eq_true (of_decide_eq_true (zq14) : (ji19) ≤ (l4.length : Int))
 replace H := Option.bind_eq_some_iff.mp H
 obtain ⟨t612, A270, H⟩ := H
 try dsimp only at H
 have A27 := Aside0.mk A270
 clear A270
 by_cases c28 : t598.size + t612.size ≤ 9223372036854775807
 rotate_left
 ·rw [if_neg c28] at H
  exact absurd H (by simp)
 rw [if_pos c28] at H
 have c28b0 := eq_true c28
 have c28b1 : decide (t598.size + t612.size ≤ 9223372036854775807) = true := decide_eq_true c28
 try have c28b2 : (9223372036854775807 < t598.size + t612.size) = False := eq_false (Nat.not_lt.2 c28)
 replace H := Option.bind_eq_some_iff.mp H
 obtain ⟨⟨t613, t614, t615, t616, t617⟩, A290, H⟩ := H
 try dsimp only at H
 have A29 := Aside0.mk A290
 clear A290
 by_cases c30 : t601 = 0
 rotate_left
 ·rw [if_neg c30] at H
  exact absurd H (by simp)
 rw [if_pos c30] at H
 have c30b0 : (t601 == 0) = true := beq_iff_eq.mpr c30
 have c30b1 : (t601 != 0) = false := bne_eq_false_iff_eq.mpr c30
 clear c30
 by_cases c31 : t598.toList = t600.toList
 rotate_left
 ·rw [if_neg c31] at H
  exact absurd H (by simp)
 rw [if_pos c31] at H
 have c31b0 : (t598.toList == t600.toList) = true := beq_iff_eq.mpr c31
 have c31b1 : (t598.toList != t600.toList) = false := bne_eq_false_iff_eq.mpr c31
 clear c31
 by_cases c32 : t609 = 0
 rotate_left
 ·rw [if_neg c32] at H
  exact absurd H (by simp)
 rw [if_pos c32] at H
 have c32b0 : (t609 == 0) = true := beq_iff_eq.mpr c32
 have c32b1 : (t609 != 0) = false := bne_eq_false_iff_eq.mpr c32
 clear c32
 by_cases c33 : t617 = 0
 rotate_left
 ·rw [if_neg c33] at H
  exact absurd H (by simp)
 rw [if_pos c33] at H
 have c33b0 : (t617 == 0) = true := beq_iff_eq.mpr c33
 have c33b1 : (t617 != 0) = false := bne_eq_false_iff_eq.mpr c33
 clear c33
 by_cases c34 : (t605 == t613 && (t606 == t614 && (t607 == t615 && (t608 == t616)))) = true
 rotate_left
 ·rw [if_neg c34] at H
  exact absurd H (by simp)
 rw [if_pos c34] at H
 have c34b0 : (t605 == t613 && (t606 == t614 && (t607 == t615 && (t608 == t616)))) = true := c34
 (try (have c34b1 : decide (t605 = t613 && (t606 == t614 && (t607 == t615 && (t608 == t616)))) = true := by simpa using c34))
 (try (have c34b2 : (t605 == t613 && (t606 == t614 && (t607 == t615 && (t608 == t616)))) = true := by simpa using c34))
 clear c34
 obtain rfl := Option.some.inj H
 go_enter Tryz.func10, Tryz.ntmps10
 try go_wp2_with (first | ((with_reducible refine gate_dst (N := 6) rfl ?_); refine box_event ?hg (N := 6) ?hd (cs := #[.int .i64 a1_0, .int .i64 a1_1, .int .i64 a1_2]) (t := 23) ?hr ?_; (case hd => rfl); (case hg => rfl); (case hr => exact zq0); intro gb578 hg w35 hbox hb; have n0_ := Aside0.mk (below_step (zq1) hb); have n1_ := Aside0.mk (hbox); have n2_ := Aside0.mk ((zq2 : w.heap.size ≤ gb578)); have n3_ := Aside0.mk ((zq2 : w.heap.size ≤ gb578)); clear HB; have HB := n0_; have BK578 := n1_; have GW578 := n2_; have GE578 := n3_; clear n0_ n1_ n2_ n3_; clear hb hbox hg) | ((with_reducible refine gate_dst (N := 7) rfl ?_); refine box_event ?hg (N := 7) ?hd (cs := #[.int .i64 a2_0, .int .i64 a2_1]) (t := 50) ?hr ?_; (case hd => rfl); (case hg => rfl); (case hr => exact zq0); intro gb579 hg w36 hbox hb; have n0_ := Aside0.mk (blk_below (g := gb578) (o := .cells #[.int .i64 a1_0, .int .i64 a1_1, .int .i64 a1_2] 23 (0, 0)) (zr7) hb); have n1_ := Aside0.mk (below_step (zr8) hb); have n2_ := Aside0.mk (hbox); have n3_ := Aside0.mk ((zr9 : w.heap.size ≤ gb579)); have n4_ := Aside0.mk ((zr9 : w.heap.size ≤ gb579)); have n5_ := Aside0.mk ((zr10 : gb578 ≠ gb579)); have n6_ := Aside0.mk ((zr11 : gb579 ≠ gb578)); clear BK578; clear HB; have BK578 := n0_; have HB := n1_; have BK579 := n2_; have GW579 := n3_; have GE579 := n4_; have NB578_579 := n5_; have NB579_578 := n6_; clear n0_ n1_ n2_ n3_ n4_ n5_ n6_; clear hb hbox hg) | ((with_reducible refine gate_callee (f := 11) rfl ?_); refine goesL_ (some 24) rfl rfl Tryz.func11 (by kernel_rfl) rfl #[] rfl (zq3) ?_; (with_reducible refine (dialtonelaw12_sane.calls k  true _ ?side1 A6.out).mono ?_); (case side1 => exact zr12); rintro e w37 ⟨rfl, hb⟩; refine ⟨_, rfl, ?_⟩; have n0_ := Aside0.mk (blk_below (g := gb578) (o := .cells #[.int .i64 a1_0, .int .i64 a1_1, .int .i64 a1_2] 23 (0, 0)) (zr7) hb); have n1_ := Aside0.mk (blk_below (g := gb579) (o := .cells #[.int .i64 a2_0, .int .i64 a2_1] 50 (0, 0)) (zr14) hb); have n2_ := Aside0.mk (below_step (zr13) hb); clear BK578; clear BK579; clear HB; have BK578 := n0_; have BK579 := n1_; have HB := n2_; clear n0_ n1_ n2_; (try clear hb); (try clear hb2); (try clear hk); (try clear hi)) | ((with_reducible refine gate_callee (f := 12) rfl ?_); refine goesL_ (some 28) rfl rfl Tryz.func12 (by kernel_rfl) rfl #[.slice A0 l0.length c0] rfl (zq3) ?_; (with_reducible refine (dialtoneref12_Made.calls k _ _ l0 t581 _ ?side1 ?side2 A8.out).mono ?_); (case side1 => exact zq25); (case side2 => exact zq26); rintro e w38 ⟨v582, rfl, ho0, hb⟩; refine ⟨_, rfl, ?_⟩; have n0_ := Aside0.mk (Kd.R_lower ho0 (below_size (zr13))); have n1_ := Aside0.mk (blk_below (g := gb578) (o := .cells #[.int .i64 a1_0, .int .i64 a1_1, .int .i64 a1_2] 23 (0, 0)) (zr7) hb); have n2_ := Aside0.mk (blk_below (g := gb579) (o := .cells #[.int .i64 a2_0, .int .i64 a2_1] 50 (0, 0)) (zr14) hb); have n3_ := Aside0.mk (below_step (zr13) hb); clear BK578; clear BK579; clear HB; have HO583 := n0_; have BK578 := n1_; have BK579 := n2_; have HB := n3_; clear n0_ n1_ n2_ n3_; (try clear hb); (try clear hb2); (try clear hk); (try clear hi); (try clear ho0)))
 have n0_ := Aside0.mk (Kd.R_drew HO583.out)
 have n1_ := Aside0.mk (blk_drew BK578.out)
 have n2_ := Aside0.mk (blk_drew BK579.out)
 have n3_ := Aside0.mk (below_drew1 HB.out)
 clear HO583
 clear BK578
 clear BK579
 clear HB
 have HO583 := n0_
 have BK578 := n1_
 have BK579 := n2_
 have HB := n3_
 clear n0_ n1_ n2_ n3_
 refine start_ (n := 8) (S := fun w' => w'.cell? ⟨gb578, 0, none⟩ = some (.int .i64 a1_0) ∧ w'.cell? ⟨gb578, 1, none⟩ = some (.int .i64 a1_1) ∧ w'.cell? ⟨gb578, 2, none⟩ = some (.int .i64 a1_2)) (ds := []) #[false, false, false, false, false, false, false, false] (by kernel_rfl) rfl rfl ⟨(blk_cell BK578.out 0).trans rfl, (blk_cell BK578.out 1).trans rfl, (blk_cell BK578.out 2).trans rfl⟩ (fun hHeld => ?_); refine with_tabW dialtonelaw12_PlanGrows.tab5 dialtonelaw12_PlanGrows.bits5 (fun HT_ HW_ => ?_)
 generalize w38.drew = w39 at HO583 BK578 BK579 HB hHeld ⊢
 refine pure_ (i := 1) (N := some 30) (v := ?_) (a' := ?_) #[false, true, false, false, false, false, false, false] rfl rfl (any_of HT_.out (by kernel_rfl)) (fun _ _ _ h => h) (Or.inl ⟨by rfl, ?_⟩) ?_ ?_
 rotate_left
 ·intro w'
  go_simp
  with_reducible rfl
 rotate_left
 ·simp only [Act.put, List.setIfInBounds_toArray, List.set_cons_zero, List.set_cons_succ, i64_w, i32_w]
  rfl
 refine take_ (i := 3) (N := some 32) (v := ?_) (a' := ?_) #[false, true, false, true, false, false, false, false] rfl rfl (take_ofW HT_.out HW_.out (by kernel_rfl)) (fun _ _ _ h => h) (Or.inl ⟨by rfl, ?_⟩) hHeld ?_ ?_
 rotate_left
 ·rintro w' ⟨s0, s1, s2⟩
  go_simp
  with_reducible rfl
 rotate_left
 ·simp only [Act.put, List.setIfInBounds_toArray, List.set_cons_zero, List.set_cons_succ, i64_w, i32_w]
  rfl
 refine one_ (i := 0) (N := some 29) #[true, true, false, true, false, false, false, false] rfl rfl (one_of HT_.out (by kernel_rfl)) (by decide) (fun K hK => ?_)
 refine Kd.R_lit_step k29 _ 29 ?hg (N := 29) ?hd (xs := ([] : List (S29))) (inner := []) (ok := fun _ => True) (okp := fun _ => True) ?hr ?hp (fun _ hk => hk) trivial (Below.refl _ _) (Nat.le_refl _) (by simp) ?_; (case hd => rfl); (case hg => rfl); (case hr => exact zq0); (case hp => exact (Reps.none _ _))
 intro v585 w40 ho41 hb hg_ hnew_
 clear hg_ hnew_
 (first | rw [← Ny584.out] at ho41 | (simp only [Int.reduceToNat] at ho41; rw [← Ny584.out] at ho41))
 have n0_ := Aside0.mk (Kd.R_elder' (zr17) (Kd.R_base ho41) hb)
 have n1_ := Aside0.mk (Kd.R_lower (Kd.R_new' ho41 (Kd.R_lt (zr17))) (below_size (zr13)))
 have n2_ := Aside0.mk (blk_below (g := gb578) (o := .cells #[.int .i64 a1_0, .int .i64 a1_1, .int .i64 a1_2] 23 (0, 0)) (zr7) hb)
 have n3_ := Aside0.mk (blk_below (g := gb579) (o := .cells #[.int .i64 a2_0, .int .i64 a2_1] 50 (0, 0)) (zr14) hb)
 have n4_ := Aside0.mk (below_step (zr13) hb)
 clear HO583
 clear BK578
 clear BK579
 clear HB
 have HO583 := n0_
 have HO586 := n1_
 have BK578 := n2_
 have BK579 := n3_
 have HB := n4_
 clear n0_ n1_ n2_ n3_ n4_
 clear hb ho41
 obtain ⟨Ao43, co43, eo43⟩ := Kd.R_slice HO583.out
 (first | subst eo43 | (injection eo43 with f1_ f2_ f3_; have f4_ := f1_.symm; have f5_ := f3_.symm; clear f1_ f2_ f3_; subst f4_; subst f5_))
 refine hK.out _ _ ⟨(blk_cell BK578.out 0).trans rfl, (blk_cell BK578.out 1).trans rfl, (blk_cell BK578.out 2).trans rfl⟩ (fun hHeld => ?_)
 clear hK K
 refine norm_ (a' := ?_) ?_ ?_
 rotate_left
 ·show Act.put _ (some 29) _ = _
  simp only [Act.put, List.setIfInBounds_toArray, List.set_cons_zero, List.set_cons_succ, i64_w, i32_w]
  rfl
 refine one_ (i := 2) (N := some 31) #[true, true, true, true, false, false, false, false] rfl rfl (one_of HT_.out (by kernel_rfl)) (by decide) (fun K hK => ?_)
 refine Kd.R_append_rows_step k29 (w0 := w) w.heap.size (by rfl) (.tmp 29) (.tmp 30) 24 29 (.agg #[(.string ⟨#[]⟩), (.string ⟨#[]⟩), (.int .i64 0)]) 40 rfl Tryz.underlying24 info29 rfl (by decide) (by omega) v585 y584 t581 _ _ _ (fun k_ => some k_ ≠ (.slice Ao43 t581.length co43 : Value).ownBlock) (fun _ => False) rfl rfl ?aO ?aR (fun _ _ h => h) (fun _ h => h.elim) ?aF ?aB ?aS ?aL ?_
 (case aR => exact zr18)
 (case aB => exact zr19)
 (case aF => exact zr20)
 (case aO => exact zr21)
 (case aS => exact zr23)
 (case aL => have := LMc9.out; omega)
 intro v588 w42 ho hb hg hat
 rw [← Ny587.out] at ho
 have n0_ := Aside0.mk (blk_grown (g := gb578) (o := .cells #[.int .i64 a1_0, .int .i64 a1_1, .int .i64 a1_2] 23 (0, 0)) (zr7) hg (Kd.R_ne HO586.out BK578.out (by decide)))
 have n1_ := Aside0.mk (blk_grown (g := gb579) (o := .cells #[.int .i64 a2_0, .int .i64 a2_1] 50 (0, 0)) (zr14) hg (Kd.R_ne HO586.out BK579.out (by decide)))
 have n2_ := Aside0.mk (Kd.R_after (ok := (fun _ => True)) (zr17) hg hat)
 have n3_ := Aside0.mk (hb)
 have n4_ := Aside0.mk (ho)
 clear BK578
 clear BK579
 clear HO583
 clear HB
 clear HO586
 have BK578 := n0_
 have BK579 := n1_
 have HO583 := n2_
 have HB := n3_
 have HO589 := n4_
 clear n0_ n1_ n2_ n3_ n4_
 clear ho hb hg hat
 refine hK.out _ _ ⟨(blk_cell BK578.out 0).trans rfl, (blk_cell BK578.out 1).trans rfl, (blk_cell BK578.out 2).trans rfl⟩ (fun hHeld => ?_)
 clear hK K
 refine norm_ (a' := ?_) ?_ ?_
 rotate_left
 ·show Act.put _ (some 31) _ = _
  simp only [Act.put, List.setIfInBounds_toArray, List.set_cons_zero, List.set_cons_succ, i64_w, i32_w]
  rfl
 refine one_ (i := 4) (N := some 33) #[true, true, true, true, true, false, false, false] rfl rfl (one_of HT_.out (by kernel_rfl)) (by decide) (fun K hK => ?_)
 refine goes_ Tryz.func29 (by kernel_rfl) rfl #[.agg #[.int .i64 a1_0, .int .i64 a1_1, .int .i64 a1_2]] (by rfl) rfl rfl (zq3) ?_
 with_reducible refine (dialtoneref12_One.calls k a1_0 a1_1 a1_2 t590 t591 t592 _ A10.out).mono ?_
 rintro e w44 ⟨rfl, hb⟩
 refine ⟨_, rfl, ?_⟩
 have n0_ := Aside0.mk (Kd.R_below (zr17) hb)
 have n1_ := Aside0.mk (Kd.R_below (zr24) hb)
 have n2_ := Aside0.mk (blk_below (g := gb578) (o := .cells #[.int .i64 a1_0, .int .i64 a1_1, .int .i64 a1_2] 23 (0, 0)) (zr7) hb)
 have n3_ := Aside0.mk (blk_below (g := gb579) (o := .cells #[.int .i64 a2_0, .int .i64 a2_1] 50 (0, 0)) (zr14) hb)
 have n4_ := Aside0.mk (below_step (zr13) hb)
 clear HO583
 clear HO589
 clear BK578
 clear BK579
 clear HB
 have HO583 := n0_
 have HO589 := n1_
 have BK578 := n2_
 have BK579 := n3_
 have HB := n4_
 clear n0_ n1_ n2_ n3_ n4_
 (try clear hb)
 (try clear hb2)
 (try clear hk)
 (try clear hi)
 refine hK.out _ _ ⟨(blk_cell BK578.out 0).trans rfl, (blk_cell BK578.out 1).trans rfl, (blk_cell BK578.out 2).trans rfl⟩ (fun hHeld => ?_)
 clear hK K
 refine norm_ (a' := ?_) ?_ ?_
 rotate_left
 ·show Act.put _ (some 33) _ = _
  simp only [Act.put, List.setIfInBounds_toArray, List.set_cons_zero, List.set_cons_succ, i64_w, i32_w]
  rfl
 refine one_ (i := 5) (N := some 34) #[true, true, true, true, true, true, false, false] rfl rfl (one_of HT_.out (by kernel_rfl)) (by decide) (fun K hK => ?_)
 refine value_ (w1 := ?_) (v := ?_) (by rfl) rfl ?_ ?_
 rotate_left 2
 ·go_simp
  constructor
  ·rfl
  ·rfl
 refine hK.out _ _ ⟨(blk_cell (blk_alloc BK578.out _) 0).trans rfl, (blk_cell (blk_alloc BK578.out _) 1).trans rfl, (blk_cell (blk_alloc BK578.out _) 2).trans rfl⟩ (fun hHeld => ?_)
 clear hK K
 refine norm_ (a' := ?_) ?_ ?_
 rotate_left
 ·show Act.put _ (some 34) _ = _
  simp only [Act.put, List.setIfInBounds_toArray, List.set_cons_zero, List.set_cons_succ, i64_w, i32_w]
  rfl
 refine one_ (i := 6) (N := some 35) #[true, true, true, true, true, true, true, false] rfl rfl (one_of HT_.out (by kernel_rfl)) (by decide) (fun K hK => ?_)
 refine Kd.R_append_step k29 (w0 := w) w.heap.size (by rfl) (.tmp 31) (.tmp 34) 24 29 (.agg #[(.string ⟨#[]⟩), (.string ⟨#[]⟩), (.int .i64 0)]) 40 rfl Tryz.underlying24 info29 rfl (by decide) (by omega) v588 y587 (⟨t590, t591, t592⟩ : S29) [.string t590, .string t591, .int .i64 t592] (fun k_ => some k_ ≠ (.slice Ao43 t581.length co43 : Value).ownBlock) (fun _ => False) rfl rfl ?aP (fun _ hk => hk.elim) ?aF ?aO ?aB ?aS ?aL ?_
 (case aP => exact zr25)
 (case aB => exact zr19)
 (case aF => exact zr20)
 (case aO => exact zr26)
 (case aS => exact zr23)
 (case aL => have := LMc11.out; omega)
 intro v594 w45 ho hb hg hat
 rw [← Ny593.out] at ho
 have n0_ := Aside0.mk (blk_grown (g := gb578) (o := .cells #[.int .i64 a1_0, .int .i64 a1_1, .int .i64 a1_2] 23 (0, 0)) (zr7) hg (Kd.R_ne HO589.out BK578.out (by decide)))
 have n1_ := Aside0.mk (blk_grown (g := gb579) (o := .cells #[.int .i64 a2_0, .int .i64 a2_1] 50 (0, 0)) (zr14) hg (Kd.R_ne HO589.out BK579.out (by decide)))
 have n2_ := Aside0.mk (Kd.R_after (ok := (fun _ => True)) (zr17) hg hat)
 have n3_ := Aside0.mk (hb)
 have n4_ := Aside0.mk (ho)
 clear BK578
 clear BK579
 clear HO583
 clear HB
 clear HO589
 have BK578 := n0_
 have BK579 := n1_
 have HO583 := n2_
 have HB := n3_
 have HO595 := n4_
 clear n0_ n1_ n2_ n3_ n4_
 clear ho hb hg hat
 refine hK.out _ _ ⟨(blk_cell BK578.out 0).trans rfl, (blk_cell BK578.out 1).trans rfl, (blk_cell BK578.out 2).trans rfl⟩ (fun hHeld => ?_)
 clear hK K
 refine norm_ (a' := ?_) ?_ ?_
 rotate_left
 ·show Act.put _ (some 35) _ = _
  simp only [Act.put, List.setIfInBounds_toArray, List.set_cons_zero, List.set_cons_succ, i64_w, i32_w]
  rfl
 refine pure_ (i := 7) (N := some 13) (v := ?_) (a' := ?_) #[true, true, true, true, true, true, true, true] rfl rfl (any_of HT_.out (by kernel_rfl)) (fun _ _ _ h => h) (Or.inl ⟨by rfl, ?_⟩) ?_ ?_
 rotate_left
 ·intro w'
  go_simp
  with_reducible rfl
 rotate_left
 ·simp only [Act.put, List.setIfInBounds_toArray, List.set_cons_zero, List.set_cons_succ, i64_w, i32_w]
  rfl
 refine done_ (done_of HT_.out (by kernel_rfl)) ?_
 try go_wp2_with (first | ((with_reducible refine gate_callee (f := 16) rfl ?_); refine goesL_ (some 37) rfl rfl Tryz.func16 (by kernel_rfl) rfl #[.int .i64 a3, .int .i64 3] rfl (zq3) ?_; (with_reducible refine (dialtonelaw12_pick.calls a3 3 t596 _ A12.out).mono ?_); rintro e w' ⟨rfl, ⟨nd, rfl⟩⟩; refine ⟨_, rfl, ?_⟩; (try (rw [drewN_self w45]; generalize hq_ : World.drewN w45 _ = w45; have n0_ : Aside0 (Kd.R k29 29 w45 w.heap.size (fun k_ => some k_ ≠ (v594 : Value).ownBlock) (.slice Ao43 t581.length co43) t581) := ⟨by rw [← hq_]; exact (by (with_reducible repeat (first | apply Kd.R_alloc | apply Kd.R_drewN | apply Kd.R_drew)); exact Kd.R_mono HO583.out (fun _ hk => hk.2))⟩; have n1_ : Aside0 (Kd.R k29 29 w45 w.heap.size (fun k_ => some k_ ≠ (.slice Ao43 t581.length co43 : Value).ownBlock) v594 y593) := ⟨by rw [← hq_]; exact (zr28)⟩; have n2_ : Aside0 (w45.heap[gb578]? = some (.cells #[.int .i64 a1_0, .int .i64 a1_1, .int .i64 a1_2] 23 (0, 0))) := ⟨by rw [← hq_]; exact (zr7)⟩; have n3_ : Aside0 (w45.heap[gb579]? = some (.cells #[.int .i64 a2_0, .int .i64 a2_1] 50 (0, 0))) := ⟨by rw [← hq_]; exact (zr14)⟩; have n4_ : Aside0 (Below w.heap.size w w45) := ⟨by rw [← hq_]; exact (zr13)⟩; clear HO583 HO595 BK578 BK579 HB hq_; have HO583 := n0_; have HO595 := n1_; have BK578 := n2_; have BK579 := n3_; have HB := n4_; clear n0_ n1_ n2_ n3_ n4_)); have hnb46 := NB579_578.out; have hnc46 := NB578_579.out; have hcz47_0 : w45.cell? ⟨gb579, 0, none⟩ = some (.int .i64 a2_0) := (blk_cell BK579.out 0).trans rfl; have hcz47_1 : w45.cell? ⟨gb579, 1, none⟩ = some (.int .i64 a2_1) := (blk_cell BK579.out 1).trans rfl; have hfz47_0 := blk_frozen BK579.out 0; have hfz47_1 := blk_frozen BK579.out 1) | ((with_reducible refine gate_callee (f := 13) rfl ?_); refine goesL_ (some 44) rfl rfl Tryz.func13 (by kernel_rfl) rfl #[.slice Ao43 t581.length co43, .int .i64 a2_0, .int .i64 a2_1] rfl (zq3) ?_; (with_reducible refine (dialtoneref12_Number.calls k _ _ t581 a2_0 a2_1 t597 _ ?side1 ?side2 A13.out).mono ?_); (case side1 => exact zr18); (case side2 => exact zr27); rintro e w48 ⟨rfl, hb⟩; refine ⟨_, rfl, ?_⟩; have n0_ := Aside0.mk (Kd.R_below (zr17) hb); have n1_ := Aside0.mk (Kd.R_below (zr28) hb); have n2_ := Aside0.mk (blk_below (g := gb578) (o := .cells #[.int .i64 a1_0, .int .i64 a1_1, .int .i64 a1_2] 23 (0, 0)) (zr7) hb); have n3_ := Aside0.mk (blk_below (g := gb579) (o := .cells #[.int .i64 a2_0, .int .i64 a2_1] 50 (0, 0)) (zr14) hb); have n4_ := Aside0.mk (below_step (zr13) hb); clear HO583; clear HO595; clear BK578; clear BK579; clear HB; have HO583 := n0_; have HO595 := n1_; have BK578 := n2_; have BK579 := n3_; have HB := n4_; clear n0_ n1_ n2_ n3_ n4_; (try clear hb); (try clear hb2); (try clear hk); (try clear hi)) | ((with_reducible refine gate_callee (f := 17) rfl ?_); refine goesL_ (some 49) rfl rfl Tryz.func17 (by kernel_rfl) rfl #[.slice Ao43 t581.length co43, .int .i64 t597, .int .i64 (wrap64 (1 + t596))] rfl (zq3) ?_; (with_reducible refine (plan_Write.calls k _ _ t581 t597 (wrap64 (1 + t596)) t598 t599 _ ?side1 ?side2 ?side3 A14.out).mono ?_); (case side1 => exact zr18); (case side2 => exact zr27); (case side3 => exact zr12); rintro e w49 ⟨rfl, hb⟩; refine ⟨_, rfl, ?_⟩; have n0_ := Aside0.mk (Kd.R_below (zr17) hb); have n1_ := Aside0.mk (Kd.R_below (zr28) hb); have n2_ := Aside0.mk (blk_below (g := gb578) (o := .cells #[.int .i64 a1_0, .int .i64 a1_1, .int .i64 a1_2] 23 (0, 0)) (zr7) hb); have n3_ := Aside0.mk (blk_below (g := gb579) (o := .cells #[.int .i64 a2_0, .int .i64 a2_1] 50 (0, 0)) (zr14) hb); have n4_ := Aside0.mk (below_step (zr13) hb); clear HO583; clear HO595; clear BK578; clear BK579; clear HB; have HO583 := n0_; have HO595 := n1_; have BK578 := n2_; have BK579 := n3_; have HB := n4_; clear n0_ n1_ n2_ n3_ n4_; (try clear hb); (try clear hb2); (try clear hk); (try clear hi); obtain ⟨Ao50, co50, eo50⟩ := Kd.R_slice HO595.out; subst eo50) | ((with_reducible refine gate_callee (f := 17) rfl ?_); refine goesL_ (some 56) rfl rfl Tryz.func17 (by kernel_rfl) rfl #[.slice Ao50 y593.length co50, .int .i64 t597, .int .i64 (wrap64 (1 + t596))] rfl (zq3) ?_; (with_reducible refine (plan_Write.calls k _ _ y593 t597 (wrap64 (1 + t596)) t600 t601 _ ?side1 ?side2 ?side3 A15.out).mono ?_); (case side1 => exact zr29); (case side2 => exact zr30); (case side3 => exact zr12); rintro e w51 ⟨rfl, hb⟩; refine ⟨_, rfl, ?_⟩; have n0_ := Aside0.mk (Kd.R_below (zr17) hb); have n1_ := Aside0.mk (Kd.R_below (zr28) hb); have n2_ := Aside0.mk (blk_below (g := gb578) (o := .cells #[.int .i64 a1_0, .int .i64 a1_1, .int .i64 a1_2] 23 (0, 0)) (zr7) hb); have n3_ := Aside0.mk (blk_below (g := gb579) (o := .cells #[.int .i64 a2_0, .int .i64 a2_1] 50 (0, 0)) (zr14) hb); have n4_ := Aside0.mk (below_step (zr13) hb); clear HO583; clear HO595; clear BK578; clear BK579; clear HB; have HO583 := n0_; have HO595 := n1_; have BK578 := n2_; have BK579 := n3_; have HB := n4_; clear n0_ n1_ n2_ n3_ n4_; (try clear hb); (try clear hb2); (try clear hk); (try clear hi)) | ((with_reducible refine gate_callee (f := 25) rfl ?_); refine goesL_ (some 60) rfl rfl Tryz.func25 (by kernel_rfl) rfl #[.slice Ao50 y593.length co50] rfl (zq3) ?_; (with_reducible refine (plan_Valid.calls k _ _ y593 true _ ?side1 ?side2 A16.out).mono ?_); (case side1 => exact zr29); (case side2 => exact zr30); rintro e w52 ⟨rfl, hb⟩; refine ⟨_, rfl, ?_⟩; have n0_ := Aside0.mk (Kd.R_below (zr17) hb); have n1_ := Aside0.mk (Kd.R_below (zr28) hb); have n2_ := Aside0.mk (blk_below (g := gb578) (o := .cells #[.int .i64 a1_0, .int .i64 a1_1, .int .i64 a1_2] 23 (0, 0)) (zr7) hb); have n3_ := Aside0.mk (blk_below (g := gb579) (o := .cells #[.int .i64 a2_0, .int .i64 a2_1] 50 (0, 0)) (zr14) hb); have n4_ := Aside0.mk (below_step (zr13) hb); clear HO583; clear HO595; clear BK578; clear BK579; clear HB; have HO583 := n0_; have HO595 := n1_; have BK578 := n2_; have BK579 := n3_; have HB := n4_; clear n0_ n1_ n2_ n3_ n4_; (try clear hb); (try clear hb2); (try clear hk); (try clear hi); obtain ⟨i053, hi053, _, hsz53, _⟩ := info_parts info3; obtain ⟨hcut53, hA53, hC53⟩ := print_take_of (P := Tryz.prog) (Value.int .i64) 0 25 3 .i64 Tryz.underlying25 hi053 hsz53 A4 c4 l4 (ji19) (of_decide_eq_true (zq14)) (of_decide_eq_true (zq14)) HC4.out; have HR603 := Aside0.mk (Kd.C_of_reads (h1 := fun _ => rfl) (hA53 _ (Kd.reads_of_C HR4.out))); have HC603 := Aside0.mk hC53; clear hA53 hC53 hi053 hsz53) | ((with_reducible refine gate_callee (f := 15) rfl ?_); refine goesL_ (some 78) rfl rfl Tryz.func15 (by kernel_rfl) rfl #[.slice A4 (l4.take ((ji19) : Int).toNat).length c4] rfl (zr31) ?_; (with_reducible refine (dialtonelaw12_text.calls k _ _ (l4.take ((ji19) : Int).toNat) t604 _ ?side1 ?side2 A22.out).mono ?_); (case side1 => repeat (first | exact (Kd.C_below HR603.out HB.out) | (with_reducible refine Kd.C_alloc ?_ _) | (with_reducible refine Kd.C_drewN ?_ _) | (with_reducible refine Kd.C_drew ?_))); (case side2 => exact HC603.out); rintro e w54 ⟨rfl, hb⟩; refine ⟨_, rfl, ?_⟩; have n0_ := Aside0.mk (Kd.R_below (zr17) hb); have n1_ := Aside0.mk (Kd.R_below (zr28) hb); have n2_ := Aside0.mk (blk_below (g := gb578) (o := .cells #[.int .i64 a1_0, .int .i64 a1_1, .int .i64 a1_2] 23 (0, 0)) (zr7) hb); have n3_ := Aside0.mk (blk_below (g := gb579) (o := .cells #[.int .i64 a2_0, .int .i64 a2_1] 50 (0, 0)) (zr14) hb); have n4_ := Aside0.mk (below_step (zr13) hb); clear HO583; clear HO595; clear BK578; clear BK579; clear HB; have HO583 := n0_; have HO595 := n1_; have BK578 := n2_; have BK579 := n3_; have HB := n4_; clear n0_ n1_ n2_ n3_ n4_; (try clear hb); (try clear hb2); (try clear hk); (try clear hi)) | ((with_reducible refine gate_callee (f := 21) rfl ?_); refine goesL_ (some 81) rfl rfl Tryz.func21 (by kernel_rfl) rfl #[.slice Ao43 t581.length co43, .string (t598 ++ t604), .int .i64 (wrap64 (1 + t596))] rfl (zq3) ?_; (with_reducible refine (plan_Read.calls k _ _ t581 (t598 ++ t604) (wrap64 (1 + t596)) t605 t606 t607 t608 t609 _ ?side1 ?side2 A24.out).mono ?_); (case side1 => exact zr18); (case side2 => exact zr27); rintro e w55 ⟨rfl, hb⟩; refine ⟨_, rfl, ?_⟩; have n0_ := Aside0.mk (Kd.R_below (zr17) hb); have n1_ := Aside0.mk (Kd.R_below (zr28) hb); have n2_ := Aside0.mk (blk_below (g := gb578) (o := .cells #[.int .i64 a1_0, .int .i64 a1_1, .int .i64 a1_2] 23 (0, 0)) (zr7) hb); have n3_ := Aside0.mk (blk_below (g := gb579) (o := .cells #[.int .i64 a2_0, .int .i64 a2_1] 50 (0, 0)) (zr14) hb); have n4_ := Aside0.mk (below_step (zr13) hb); clear HO583; clear HO595; clear BK578; clear BK579; clear HB; have HO583 := n0_; have HO595 := n1_; have BK578 := n2_; have BK579 := n3_; have HB := n4_; clear n0_ n1_ n2_ n3_ n4_; (try clear hb); (try clear hb2); (try clear hk); (try clear hi)) | ((with_reducible refine gate_dst (N := 20) rfl ?_); refine box_event ?hg (N := 20) ?hd (cs := #[.int .i64 0, .int .i64 0, .int .i64 0, .int .i64 0]) (t := 44) ?hr ?_; (case hd => rfl); (case hg => rfl); (case hr => exact zq0); intro gb610 hg w56 hbox hb; have n0_ := Aside0.mk (Kd.R_below (zr17) hb); have n1_ := Aside0.mk (Kd.R_below (zr28) hb); have n2_ := Aside0.mk (blk_below (g := gb578) (o := .cells #[.int .i64 a1_0, .int .i64 a1_1, .int .i64 a1_2] 23 (0, 0)) (zr7) hb); have n3_ := Aside0.mk (blk_below (g := gb579) (o := .cells #[.int .i64 a2_0, .int .i64 a2_1] 50 (0, 0)) (zr14) hb); have n4_ := Aside0.mk (below_step (zr13) hb); have n5_ := Aside0.mk (hbox); have n6_ := Aside0.mk ((zr32 : w.heap.size ≤ gb610)); have n7_ := Aside0.mk ((zr32 : w.heap.size ≤ gb610)); have n8_ := Aside0.mk ((zr10 : gb578 ≠ gb610)); have n9_ := Aside0.mk ((zr11 : gb610 ≠ gb578)); have n10_ := Aside0.mk ((zr33 : gb579 ≠ gb610)); have n11_ := Aside0.mk ((zr34 : gb610 ≠ gb579)); clear HO583; clear HO595; clear BK578; clear BK579; clear HB; have HO583 := n0_; have HO595 := n1_; have BK578 := n2_; have BK579 := n3_; have HB := n4_; have BK610 := n5_; have GW610 := n6_; have GE610 := n7_; have NB578_610 := n8_; have NB610_578 := n9_; have NB579_610 := n10_; have NB610_579 := n11_; clear n0_ n1_ n2_ n3_ n4_ n5_ n6_ n7_ n8_ n9_ n10_ n11_; clear hb hbox hg; have hnb57 := NB610_578.out; have hnc57 := NB578_610.out; have hnb58 := NB610_579.out; have hnc58 := NB579_610.out; have hcz59_0 : w56.cell? ⟨gb610, 0, none⟩ = some (.int .i64 0) := (blk_cell BK610.out 0).trans rfl; have hcz59_1 : w56.cell? ⟨gb610, 1, none⟩ = some (.int .i64 0) := (blk_cell BK610.out 1).trans rfl; have hcz59_2 : w56.cell? ⟨gb610, 2, none⟩ = some (.int .i64 0) := (blk_cell BK610.out 2).trans rfl; have hcz59_3 : w56.cell? ⟨gb610, 3, none⟩ = some (.int .i64 0) := (blk_cell BK610.out 3).trans rfl; have hfz59_0 := blk_frozen BK610.out 0; have hfz59_1 := blk_frozen BK610.out 1; have hfz59_2 := blk_frozen BK610.out 2; have hfz59_3 := blk_frozen BK610.out 3; obtain ⟨i060, hi060, _, hsz60, _⟩ := info_parts info3; obtain ⟨hcut60, hA60, hC60⟩ := print_take_of (P := Tryz.prog) (Value.int .i64) 0 25 3 .i64 Tryz.underlying25 hi060 hsz60 A4 c4 l4 (ji19) (of_decide_eq_true (zq14)) (of_decide_eq_true (zq14)) HC4.out; have HR611 := Aside0.mk (Kd.C_of_reads (h1 := fun _ => rfl) (hA60 _ (Kd.reads_of_C HR4.out))); have HC611 := Aside0.mk hC60; clear hA60 hC60 hi060 hsz60) | ((with_reducible refine gate_callee (f := 15) rfl ?_); refine goesL_ (some 92) rfl rfl Tryz.func15 (by kernel_rfl) rfl #[.slice A4 (l4.take ((ji19) : Int).toNat).length c4] rfl (zr31) ?_; (with_reducible refine (dialtonelaw12_text.calls k _ _ (l4.take ((ji19) : Int).toNat) t612 _ ?side1 ?side2 A27.out).mono ?_); (case side1 => exact Kd.C_below HR611.out (zr35)); (case side2 => exact HC611.out); rintro e w61 ⟨rfl, hb⟩; refine ⟨_, rfl, ?_⟩; have n0_ := Aside0.mk (Kd.R_below (by (with_reducible repeat (first | apply Kd.R_alloc | apply Kd.R_drewN | apply Kd.R_drew)); exact (Kd.R_mono (Kd.R_far (p := ⟨gb610, 3, none⟩) (Kd.R_far (p := ⟨gb610, 2, none⟩) (Kd.R_far (p := ⟨gb610, 1, none⟩) (Kd.R_far (p := ⟨gb610, 0, none⟩) (Kd.R_types HO583.out BK610.out (by decide)) (fun _ hk => hk.2) (.int .i64 t605)) (fun _ hk => hk.2) (.int .i64 t606)) (fun _ hk => hk.2) (.int .i64 t607)) (fun _ hk => hk.2) (.int .i64 t608)) (fun _ h_ => h_.1))) hb); have n1_ := Aside0.mk (Kd.R_below (by (with_reducible repeat (first | apply Kd.R_alloc | apply Kd.R_drewN | apply Kd.R_drew)); exact (Kd.R_mono (Kd.R_far (p := ⟨gb610, 3, none⟩) (Kd.R_far (p := ⟨gb610, 2, none⟩) (Kd.R_far (p := ⟨gb610, 1, none⟩) (Kd.R_far (p := ⟨gb610, 0, none⟩) (Kd.R_types HO595.out BK610.out (by decide)) (fun _ hk => hk.2) (.int .i64 t605)) (fun _ hk => hk.2) (.int .i64 t606)) (fun _ hk => hk.2) (.int .i64 t607)) (fun _ hk => hk.2) (.int .i64 t608)) (fun _ h_ => h_.1))) hb); have n2_ := Aside0.mk (blk_below (g := gb578) (o := .cells #[.int .i64 a1_0, .int .i64 a1_1, .int .i64 a1_2] 23 (0, 0)) (by (with_reducible repeat (first | refine blk_drewN ?_ _ | refine blk_drew ?_ | refine blk_alloc ?_ _)); refine blk_far ?_ NB578_610.out _; (with_reducible repeat (first | refine blk_drewN ?_ _ | refine blk_drew ?_ | refine blk_alloc ?_ _)); refine blk_far ?_ NB578_610.out _; (with_reducible repeat (first | refine blk_drewN ?_ _ | refine blk_drew ?_ | refine blk_alloc ?_ _)); refine blk_far ?_ NB578_610.out _; (with_reducible repeat (first | refine blk_drewN ?_ _ | refine blk_drew ?_ | refine blk_alloc ?_ _)); refine blk_far ?_ NB578_610.out _; (with_reducible repeat (first | refine blk_drewN ?_ _ | refine blk_drew ?_ | refine blk_alloc ?_ _)); exact BK578.out) hb); have n3_ := Aside0.mk (blk_below (g := gb579) (o := .cells #[.int .i64 a2_0, .int .i64 a2_1] 50 (0, 0)) (by (with_reducible repeat (first | refine blk_drewN ?_ _ | refine blk_drew ?_ | refine blk_alloc ?_ _)); refine blk_far ?_ NB579_610.out _; (with_reducible repeat (first | refine blk_drewN ?_ _ | refine blk_drew ?_ | refine blk_alloc ?_ _)); refine blk_far ?_ NB579_610.out _; (with_reducible repeat (first | refine blk_drewN ?_ _ | refine blk_drew ?_ | refine blk_alloc ?_ _)); refine blk_far ?_ NB579_610.out _; (with_reducible repeat (first | refine blk_drewN ?_ _ | refine blk_drew ?_ | refine blk_alloc ?_ _)); refine blk_far ?_ NB579_610.out _; (with_reducible repeat (first | refine blk_drewN ?_ _ | refine blk_drew ?_ | refine blk_alloc ?_ _)); exact BK579.out) hb); have n4_ := Aside0.mk (blk_below (g := gb610) (o := .cells #[.int .i64 t605, .int .i64 t606, .int .i64 t607, .int .i64 t608] 44 (0, 0)) (by (with_reducible repeat (first | refine blk_drewN ?_ _ | refine blk_drew ?_ | refine blk_alloc ?_ _)); refine blk_put (cs := #[.int .i64 t605, .int .i64 t606, .int .i64 t607, .int .i64 0]) ?_ 3 _ rfl; (with_reducible repeat (first | refine blk_drewN ?_ _ | refine blk_drew ?_ | refine blk_alloc ?_ _)); refine blk_put (cs := #[.int .i64 t605, .int .i64 t606, .int .i64 0, .int .i64 0]) ?_ 2 _ rfl; (with_reducible repeat (first | refine blk_drewN ?_ _ | refine blk_drew ?_ | refine blk_alloc ?_ _)); refine blk_put (cs := #[.int .i64 t605, .int .i64 0, .int .i64 0, .int .i64 0]) ?_ 1 _ rfl; (with_reducible repeat (first | refine blk_drewN ?_ _ | refine blk_drew ?_ | refine blk_alloc ?_ _)); refine blk_put (cs := #[.int .i64 0, .int .i64 0, .int .i64 0, .int .i64 0]) ?_ 0 _ rfl; (with_reducible repeat (first | refine blk_drewN ?_ _ | refine blk_drew ?_ | refine blk_alloc ?_ _)); exact BK610.out) hb); have n5_ := Aside0.mk (below_step (zr35) hb); clear HO583; clear HO595; clear BK578; clear BK579; clear BK610; clear HB; have HO583 := n0_; have HO595 := n1_; have BK578 := n2_; have BK579 := n3_; have BK610 := n4_; have HB := n5_; clear n0_ n1_ n2_ n3_ n4_ n5_; (try clear hb); (try clear hb2); (try clear hk); (try clear hi)) | ((with_reducible refine gate_callee (f := 21) rfl ?_); refine goesL_ (some 95) rfl rfl Tryz.func21 (by kernel_rfl) rfl #[.slice Ao50 y593.length co50, .string (t598 ++ t612), .int .i64 (wrap64 (1 + t596))] rfl (zq3) ?_; (with_reducible refine (plan_Read.calls k _ _ y593 (t598 ++ t612) (wrap64 (1 + t596)) t613 t614 t615 t616 t617 _ ?side1 ?side2 A29.out).mono ?_); (case side1 => exact zr29); (case side2 => exact zr30); rintro e w62 ⟨rfl, hb⟩; refine ⟨_, rfl, ?_⟩; have n0_ := Aside0.mk (Kd.R_below (zr17) hb); have n1_ := Aside0.mk (Kd.R_below (zr28) hb); have n2_ := Aside0.mk (blk_below (g := gb578) (o := .cells #[.int .i64 a1_0, .int .i64 a1_1, .int .i64 a1_2] 23 (0, 0)) (zr7) hb); have n3_ := Aside0.mk (blk_below (g := gb579) (o := .cells #[.int .i64 a2_0, .int .i64 a2_1] 50 (0, 0)) (zr14) hb); have n4_ := Aside0.mk (blk_below (g := gb610) (o := .cells #[.int .i64 t605, .int .i64 t606, .int .i64 t607, .int .i64 t608] 44 (0, 0)) (zr36) hb); have n5_ := Aside0.mk (below_step (zr35) hb); clear HO583; clear HO595; clear BK578; clear BK579; clear BK610; clear HB; have HO583 := n0_; have HO595 := n1_; have BK578 := n2_; have BK579 := n3_; have BK610 := n4_; have HB := n5_; clear n0_ n1_ n2_ n3_ n4_ n5_; (try clear hb); (try clear hb2); (try clear hk); (try clear hi)) | ((with_reducible refine gate_dst (N := 22) rfl ?_); refine box_event ?hg (N := 22) ?hd (cs := #[.int .i64 0, .int .i64 0, .int .i64 0, .int .i64 0]) (t := 44) ?hr ?_; (case hd => rfl); (case hg => rfl); (case hr => exact zq0); intro gb618 hg w63 hbox hb; have n0_ := Aside0.mk (Kd.R_below (zr17) hb); have n1_ := Aside0.mk (Kd.R_below (zr28) hb); have n2_ := Aside0.mk (blk_below (g := gb578) (o := .cells #[.int .i64 a1_0, .int .i64 a1_1, .int .i64 a1_2] 23 (0, 0)) (zr7) hb); have n3_ := Aside0.mk (blk_below (g := gb579) (o := .cells #[.int .i64 a2_0, .int .i64 a2_1] 50 (0, 0)) (zr14) hb); have n4_ := Aside0.mk (blk_below (g := gb610) (o := .cells #[.int .i64 t605, .int .i64 t606, .int .i64 t607, .int .i64 t608] 44 (0, 0)) (zr36) hb); have n5_ := Aside0.mk (below_step (zr35) hb); have n6_ := Aside0.mk (hbox); have n7_ := Aside0.mk ((zr37 : w.heap.size ≤ gb618)); have n8_ := Aside0.mk ((zr37 : w.heap.size ≤ gb618)); have n9_ := Aside0.mk ((zr10 : gb578 ≠ gb618)); have n10_ := Aside0.mk ((zr11 : gb618 ≠ gb578)); have n11_ := Aside0.mk ((zr33 : gb579 ≠ gb618)); have n12_ := Aside0.mk ((zr34 : gb618 ≠ gb579)); have n13_ := Aside0.mk ((by rw [hg]; exact Nat.ne_of_lt (blk_lt (g := gb610) (o := .cells #[.int .i64 t605, .int .i64 t606, .int .i64 t607, .int .i64 t608] 44 (0, 0)) (zr36)) : gb610 ≠ gb618)); have n14_ := Aside0.mk ((by rw [hg]; exact Nat.ne_of_gt (blk_lt (g := gb610) (o := .cells #[.int .i64 t605, .int .i64 t606, .int .i64 t607, .int .i64 t608] 44 (0, 0)) (zr36)) : gb618 ≠ gb610)); clear HO583; clear HO595; clear BK578; clear BK579; clear BK610; clear HB; have HO583 := n0_; have HO595 := n1_; have BK578 := n2_; have BK579 := n3_; have BK610 := n4_; have HB := n5_; have BK618 := n6_; have GW618 := n7_; have GE618 := n8_; have NB578_618 := n9_; have NB618_578 := n10_; have NB579_618 := n11_; have NB618_579 := n12_; have NB610_618 := n13_; have NB618_610 := n14_; clear n0_ n1_ n2_ n3_ n4_ n5_ n6_ n7_ n8_ n9_ n10_ n11_ n12_ n13_ n14_; clear hb hbox hg; have hnb64 := NB618_578.out; have hnc64 := NB578_618.out; have hnb65 := NB618_579.out; have hnc65 := NB579_618.out; have hnb66 := NB618_610.out; have hnc66 := NB610_618.out; have hcz67_0 : w63.cell? ⟨gb618, 0, none⟩ = some (.int .i64 0) := (blk_cell BK618.out 0).trans rfl; have hcz67_1 : w63.cell? ⟨gb618, 1, none⟩ = some (.int .i64 0) := (blk_cell BK618.out 1).trans rfl; have hcz67_2 : w63.cell? ⟨gb618, 2, none⟩ = some (.int .i64 0) := (blk_cell BK618.out 2).trans rfl; have hcz67_3 : w63.cell? ⟨gb618, 3, none⟩ = some (.int .i64 0) := (blk_cell BK618.out 3).trans rfl; have hfz67_0 := blk_frozen BK618.out 0; have hfz67_1 := blk_frozen BK618.out 1; have hfz67_2 := blk_frozen BK618.out 2; have hfz67_3 := blk_frozen BK618.out 3; have hcz68_0 : w63.cell? ⟨gb610, 0, none⟩ = some (.int .i64 t605) := (blk_cell BK610.out 0).trans rfl; have hcz68_1 : w63.cell? ⟨gb610, 1, none⟩ = some (.int .i64 t606) := (blk_cell BK610.out 1).trans rfl; have hcz68_2 : w63.cell? ⟨gb610, 2, none⟩ = some (.int .i64 t607) := (blk_cell BK610.out 2).trans rfl; have hcz68_3 : w63.cell? ⟨gb610, 3, none⟩ = some (.int .i64 t608) := (blk_cell BK610.out 3).trans rfl; have hfz68_0 := blk_frozen BK610.out 0; have hfz68_1 := blk_frozen BK610.out 1; have hfz68_2 := blk_frozen BK610.out 2; have hfz68_3 := blk_frozen BK610.out 3))
 go_ret
 exact ⟨by first | rfl | (simp [errW_none, errW_some] <;> rfl) | (simp only [← hji19]; first | rfl | (simp [errW_none, errW_some] <;> rfl)) | (simp [*, errW_none, errW_some] <;> rfl), by repeat (first | (with_reducible first | exact HB.out | apply below_alloc | apply pw_below_drewN | apply below_drew1 | refine below_set ?_ GE578.out | refine below_set ?_ GE579.out | refine below_set ?_ GE610.out | refine below_set ?_ GE618.out) | exact HB.out)⟩
end Go.Proofs.YtlmfoblgheepoaaGreatDoor.Pl
end
section
namespace Go.Proofs.YtlmfoblgheepoaaGreatDoor.Pure
open Go.RowKit Go.Proofs.YtlmfoblgheepoaaGreatDoorW.PrintWords Go.Proofs.YtlmfoblgheepoaaGreatDoorW.PrintLast Go.Proofs.YtlmfoblgheepoaaGreatDoorW.PrintMore Go.Proofs.YtlmfoblgheepoaaGreatDoor.Pl
set_option linter.unusedVariables false
set_option linter.unusedSimpArgs false
theorem digitVal_of {b : UInt8} (h : isD b = true) : Lib.digitVal b = some (b.toNat - 48) := by
  have := (isD_iff b).mp h
  unfold Lib.digitVal
  rw [if_pos this]
theorem decFrom_val : ∀ (l : D) (a : Nat), digs l = true → Lib.decFrom a l = some (valF a l)
  | [], a, _ => rfl
  | b :: r, a, h => by
    have hb : isD b = true ∧ digs r = true := by simpa [digs] using h
    rw [Lib.decFrom, digitVal_of hb.1, valF_cons]
    exact decFrom_val r _ hb.2
theorem atoi_val (l : D) (h : digs l = true) (h0 : l ≠ []) : Lib.atoi l = some (val l : Int) := by
  cases l with
  | nil => exact absurd rfl h0
  | cons b r =>
    have hb : isD b = true ∧ digs r = true := by simpa [digs] using h
    have hb' := (isD_iff b).mp hb.1
    have n1 : (b == 45) = false := by
      rw [beq_eq_false_iff_ne]; intro e; subst e; simp at hb'
    have n2 : (b == 43) = false := by
      rw [beq_eq_false_iff_ne]; intro e; subst e; simp at hb'
    rw [Lib.atoi, n1, n2]
    simp only [Bool.false_eq_true, if_false]
    rw [Lib.decNat]
    simp only [List.isEmpty_cons, Bool.false_eq_true, if_false]
    rw [decFrom_val _ _ h]
    rfl
theorem atoi_eq (s : ByteArray) (h : s.size ≤ 18) (hd : digs s.data.toList = true) (h0 : 1 ≤ s.size) : strconv_Atoi.f s = some ((val s.data.toList : Int), none) := by
  unfold strconv_Atoi.f
  rw [if_pos h, atoi_val _ hd]
  · rfl
  · intro e; rw [Lib.size_eq, e] at h0; simp at h0
end Go.Proofs.YtlmfoblgheepoaaGreatDoor.Pure
end
section
namespace Go.Proofs.YtlmfoblgheepoaaGreatDoor.Pure
open Go.RowKit Go.Proofs.YtlmfoblgheepoaaGreatDoorW.PrintWords Go.Proofs.YtlmfoblgheepoaaGreatDoorW.PrintLast Go.Proofs.YtlmfoblgheepoaaGreatDoorW.PrintMore Go.Proofs.YtlmfoblgheepoaaGreatDoor.Pl
set_option linter.unusedVariables false
set_option linter.unusedSimpArgs false
theorem b_of (s : ByteArray) : b s.data.toList = s := ba_ext (by rw [b_data])
theorem b_append (x y : D) : b x ++ b y = b (x ++ y) := ba_ext (by simp [b_data])
end Go.Proofs.YtlmfoblgheepoaaGreatDoor.Pure
end
section
namespace Go.Proofs.YtlmfoblgheepoaaGreatDoor.Pure
open Go.RowKit Go.Proofs.YtlmfoblgheepoaaGreatDoorW.PrintWords Go.Proofs.YtlmfoblgheepoaaGreatDoorW.PrintLast Go.Proofs.YtlmfoblgheepoaaGreatDoorW.PrintMore Go.Proofs.YtlmfoblgheepoaaGreatDoor.Pl
set_option linter.unusedVariables false
set_option linter.unusedSimpArgs false
structure EnOk (e : En) : Prop where
  kd : digs e.key = true
  sd : digs e.st = true
  k1 : 1 ≤ e.key.length
  s1 : 1 ≤ e.st.length
  kl : (e.key.length : Int) < e.len
  l8 : e.len ≤ 8
  tot : (e.st.length : Int) + (e.len - e.key.length) = 8
  key5 : e.key.length ≤ 5
theorem digs_rep (n : Nat) : digs (List.replicate n 48) = true := by
  unfold digs; rw [List.all_replicate]; simp; right; decide
theorem eOld_ok {c : S29} (h : One c) (i : Nat) : EnOk (eOld i c) := by
  have a1 := h.o1; have a2 := h.o4; have a3 := h.n1; have a4 := h.n5; have a5 := h.l1; have a6 := h.l7; have a7 := h.rm
  refine ⟨h.od, ?_, h.o1, ?_, h.l1, ?_, ?_, ?_⟩
  · simp only [eOld]; rw [digs_append, h.nd, digs_rep]; rfl
  · simp only [eOld]; rw [List.length_append]; omega
  · simp only [eOld]; omega
  · simp only [eOld, zs]; rw [List.length_append, List.length_replicate]; omega
  · simp only [eOld]; omega
theorem eNew_ok {c : S29} (h : One c) (i : Nat) : EnOk (eNew i c) := by
  have a1 := h.o1; have a2 := h.o4; have a3 := h.n1; have a4 := h.n5; have a5 := h.l1; have a6 := h.l7; have a7 := h.rm
  refine ⟨h.nd, h.nd, h.n1, h.n1, ?_, ?_, ?_, ?_⟩ <;> simp only [eNew] <;> omega
theorem es_ok {c : S29} (h : One c) {ph : Int} {i : Nat} {e : En} (he : e ∈ es ph i c) : EnOk e := by
  unfold es at he
  rcases List.mem_append.mp he with he | he
  · split at he
    · rw [List.mem_singleton.mp he]; exact eOld_ok h i
    · cases he
  · split at he
    · rw [List.mem_singleton.mp he]; exact eNew_ok h i
    · cases he
theorem ents_ok {ph : Int} : ∀ {p : List S29} {i : Nat} {e : En}, (∀ c ∈ p, One c) → e ∈ ents ph p i → EnOk e
  | [], _, _, _, he => by cases he
  | c :: r, i, e, hp, he => by
    rcases List.mem_append.mp he with he | he
    · exact es_ok (hp c List.mem_cons_self) he
    · exact ents_ok (fun x hx => hp x (List.mem_cons_of_mem _ hx)) he
def hitS (e : En) (d : D) : Int × Int × Int × Int × Int :=
  if (d.length : Int) < e.len then (1, 0, 0, 0, 0) else (2, (val (e.st ++ (d.drop e.key.length).take (e.len.toNat - e.key.length)) : Int), e.idx, e.len, 0)
def rE (l : List En) (d : D) : Int × Int × Int × Int × Int :=
  match l.find? (fun e => e.key.isPrefixOf d) with
  | some e => hitS e d
  | none => if l.any (fun e => d.isPrefixOf e.key) = true then (1, 0, 0, 0, 0) else (0, 0, 0, 0, 0)
def rS (p : List S29) (d : D) (ph : Int) : Int × Int × Int × Int × Int := rE (ents ph p 0) d
def toB (e : En) : ByteArray × Ent := (b e.key, (e.idx, e.len, b e.st))
theorem entGo_eq (ph : Int) : ∀ (p : List S29) (i : Nat) (L : List (ByteArray × Ent)), (∀ c ∈ p, One c) → entGo ph p i L = some (((ents ph p i).map toB).reverse ++ L)
  | [], i, L, _ => rfl
  | c :: r, i, L, h => by
    have hc := h c List.mem_cons_self
    have e0 : c.f0.size = (co c).length := Lib.size_eq _
    have e1 : c.f1.size = (cn c).length := Lib.size_eq _
    have a1 := hc.o1; have a2 := hc.o4; have a3 := hc.n1; have a4 := hc.n5; have a5 := hc.l1; have a6 := hc.l7; have a7 := hc.rm
    rw [entGo, ents]
    have hst : entStep ph c i L = some (((es ph i c).map toB).reverse ++ L) := by
      unfold entStep
      rw [if_pos ⟨by omega, by omega⟩]
      unfold es
      have bo : b (co c) = c.f0 := b_of _
      have bn : b (cn c) = c.f1 := b_of _
      by_cases h3 : ph = 3
      · by_cases h1 : ph = 1
        · omega
        · simp [h3, h1, toB, eNew, bn]
      · have hz : strings_Repeat.f (⟨#[48]⟩ : ByteArray) (wrap64 (wrap64 (8 - (c.f1.size : Int)) - (c.f2 - ((co c).length : Int)))) = some (b (List.replicate (zs c) 48)) := by
          rw [e1, w64 (n := 8 - ((cn c).length : Int)) (by omega) (by omega), w64 (by omega) (by omega)]
          unfold strings_Repeat.f
          have hone : (⟨#[48]⟩ : ByteArray).size = 1 := rfl
          rw [if_pos ⟨by omega, by omega, by rw [hone]; omega⟩]
          have := Lib.repeatL_replicate (48 : UInt8) 1 (zs c)
          simp only [Nat.mul_one] at this
          have e' : Lib.repeatL (⟨#[48]⟩ : ByteArray).data.toList (8 - ((cn c).length : Int) - (c.f2 - ((co c).length : Int))).toNat = List.replicate (zs c) 48 := this
          rw [e']; rfl
        have hsz : c.f1.size + (b (List.replicate (zs c) 48)).size ≤ 9223372036854775807 := by
          rw [b_size, List.length_replicate]; unfold zs; omega
        have hb : c.f1 ++ b (List.replicate (zs c) 48) = b (cn c ++ List.replicate (zs c) 48) := by rw [← bn, b_append]
        have hr : plan_room.f c.f0 c.f1 c.f2 = some (c.f2 - ((co c).length : Int)) := by unfold plan_room.f; rw [e0, w64 (by omega) (by omega)]
        by_cases h1 : ph = 1
        · simp only [ne_eq, h3, h1, not_false_eq_true, if_true, hr, Option.bind_some, hz, hsz, hb]
          simp [toB, eOld, bo]
        · simp only [ne_eq, h3, h1, not_false_eq_true, if_true, hr, Option.bind_some, hz, hsz, hb]
          simp [toB, eOld, eNew, bo, bn]
    rw [hst, Option.bind_some, entGo_eq ph r (i + 1) _ (fun x hx => h x (List.mem_cons_of_mem _ hx))]
    simp
theorem b_inj {x y : D} (h : b x = b y) : x = y := by rw [← b_data x, h, b_data]
theorem look_some {l : List En} (h : l.Pairwise (fun e f => apt e.key f.key = true)) {e : En} (he : e ∈ l) : lookE ((l.map toB).reverse ++ []) (b e.key) = some (e.idx, e.len, b e.st) := by
  unfold lookE
  have hm : toB e ∈ ((l.map toB).reverse ++ []) := by simp; exact ⟨e, he, rfl⟩
  cases hf : (((l.map toB).reverse ++ []).find? (fun p : ByteArray × Ent => decide (p.1 = b e.key))) with
  | none =>
    have := List.find?_eq_none.mp hf (toB e) hm
    simp [toB] at this
  | some y =>
    have h1 := List.find?_some hf
    have h2 := List.mem_of_find?_eq_some hf
    simp at h2
    obtain ⟨f, hf', rfl⟩ := h2
    simp [toB] at h1
    have := b_inj (of_decide_eq_true h1)
    rcases pair_eq h he hf' with h3 | h3
    · rw [← h3]; rfl
    · rw [apt_iff, this] at h3
      exact absurd (List.prefix_refl _) h3.1
theorem look_none {l : List En} {s : D} (h : ∀ e ∈ l, e.key ≠ s) : lookE ((l.map toB).reverse ++ []) (b s) = none := by
  unfold lookE
  rw [Option.map_eq_none_iff, List.find?_eq_none]
  intro x hx
  simp at hx
  obtain ⟨f, hf, rfl⟩ := hx
  simp [toB]
  exact decide_eq_false (fun e => h f hf (b_inj e))
theorem ext_take (d : D) (k : Nat) : (b d).extract 0 k = b (d.take k) := by
  apply ba_ext; rw [Lib.extract_data, b_data, b_data]; simp
theorem loop_none {l : List En} {d : D} (h : ∀ e ∈ l, ¬ e.key <+: d) : ∀ m k, readLoop ((l.map toB).reverse ++ []) (b d) m k = some none
  | 0, k => rfl
  | m + 1, k => by
    rw [readLoop, ext_take, look_none (fun e he hk => h e he (by rw [hk]; exact List.take_prefix _ _))]
    exact loop_none h m (k + 1)
theorem loop_hit {l : List En} (h : l.Pairwise (fun e f => apt e.key f.key = true)) {d : D} (hd : digs d = true) (hl : d.length ≤ 16) {e : En} (he : e ∈ l) (ho : EnOk e) (hp : e.key <+: d) : ∀ m k, k ≤ e.key.length → e.key.length < m + k →
    readLoop ((l.map toB).reverse ++ []) (b d) m k = some (some ((hitS e d).1, (hitS e d).2.1, (hitS e d).2.2.1, (hitS e d).2.2.2.1))
  | 0, k, h1, h2 => by omega
  | m + 1, k, h1, h2 => by
    rw [readLoop, ext_take]
    have hkl := hp.length_le
    by_cases hk : k = e.key.length
    · have : d.take k = e.key := by rw [hk]; exact (List.prefix_iff_eq_take.mp hp).symm
      rw [this, look_some h he]
      simp only [b_size]
      have b1 := ho.kl; have b2 := ho.l8; have b3 := ho.tot; have b4 := ho.key5; have b5 := ho.s1
      unfold hitS
      by_cases hs : (d.length : Int) < e.len
      · simp only [hs, if_true]
      · simp only [hs, if_false]
        have ex : ((b d).extract k e.len.toNat).data.toList = (d.drop e.key.length).take (e.len.toNat - e.key.length) := by rw [Lib.extract_data, b_data, hk]
        have exl : ((b d).extract k e.len.toNat).size = e.len.toNat - e.key.length := by rw [Lib.size_eq, ex, List.length_take, List.length_drop]; omega
        have eb : (b e.st ++ (b d).extract k e.len.toNat) = b (e.st ++ (d.drop e.key.length).take (e.len.toNat - e.key.length)) := by
          apply ba_ext; simp only [ByteArray.data_append, Array.toList_append, ex, b_data]
        rw [if_pos ⟨by omega, by omega, by omega⟩, eb]
        have hdig : digs (e.st ++ (d.drop e.key.length).take (e.len.toNat - e.key.length)) = true := by
          rw [digs_append, ho.sd, Bool.true_and]
          unfold digs at hd ⊢
          rw [List.all_eq_true] at hd ⊢
          exact fun x hx => hd x (List.mem_of_mem_drop (List.mem_of_mem_take hx))
        have hlen : (e.st ++ (d.drop e.key.length).take (e.len.toNat - e.key.length)).length = 8 := by rw [List.length_append, List.length_take, List.length_drop]; omega
        rw [atoi_eq _ (by rw [b_size, hlen]; omega) (by rw [b_data]; exact hdig) (by rw [b_size, hlen]; omega)]
        simp only [Option.bind_some, b_data]
    · have : ∀ f ∈ l, f.key ≠ d.take k := by
        intro f hf hkey
        have hfp : f.key <+: d := by rw [hkey]; exact List.take_prefix _ _
        have := pair_hit h he hf hp hfp
        rw [← this] at hkey
        have : e.key.length = k := by rw [hkey, List.length_take]; omega
        omega
      rw [look_none this]
      exact loop_hit h hd hl he ho hp m (k + 1) (by omega) (by omega)
theorem any_eq (l : List En) (d : D) : (((l.map toB).reverse ++ []).any (fun p => Lib.hasPrefix p.1.data.toList (b d).data.toList)) = l.any (fun e => d.isPrefixOf e.key) := by
  unfold Lib.hasPrefix
  simp only [List.append_nil, List.any_reverse, List.any_map, b_data]
  have : ((fun p : ByteArray × Ent => d.isPrefixOf p.1.data.toList) ∘ toB) = (fun e => d.isPrefixOf e.key) := by funext e; simp [toB, b_data]
  simp [Function.comp_def, toB, b_data]
theorem hit5 (e : En) (d : D) : ((hitS e d).1, (hitS e d).2.1, (hitS e d).2.2.1, (hitS e d).2.2.2.1, (0 : Int)) = hitS e d := by
  unfold hitS; split <;> rfl
theorem rest_eq (p : List S29) (hv : vp p = true) (ph : Int) (d : D) (hd : digs d = true) (hl : d.length ≤ 16) : plan_ReadRest p (b d) ph = some (rS p d ph) := by
  have h20 := vp_len hv
  have ho : ∀ c ∈ p, One c := fun c hc => vp_one hv hc
  have hpair := ents_pair (ph := ph) (i := 0) (vp_pair hv) ho
  unfold plan_ReadRest
  rw [if_pos ⟨by omega, by rw [b_size]; omega⟩, entGo_eq ph p 0 [] ho, Option.bind_some]
  unfold rS rE
  cases hf : (ents ph p 0).find? (fun e => e.key.isPrefixOf d) with
  | none =>
    have hn : ∀ e ∈ ents ph p 0, ¬ e.key <+: d := by
      intro e he hp
      have := List.find?_eq_none.mp hf e he
      rw [List.isPrefixOf_iff_prefix] at this
      exact this hp
    rw [loop_none hn, Option.bind_some]
    simp only [readEnd, any_eq]
  | some e =>
    have h1 := List.find?_some hf
    have h2 := List.mem_of_find?_eq_some hf
    rw [List.isPrefixOf_iff_prefix] at h1
    have hk := h1.length_le
    rw [loop_hit hpair hd hl h2 (ents_ok ho h2) h1 _ 0 (by omega) (by rw [b_size]; omega), Option.bind_some]
    simp only [readEnd, hit5]
theorem read_ev (p : List S29) (hv : vp p = true) (ph : Int) (hp : okPh ph = true) (d : D) (hd : digs d = true) (hl : d.length ≤ 16) : Ev (fun k => plan_Read.f k p (b d) ph) (rS p d ph) := by
  have h20 := vp_len hv
  unfold plan_Read.f
  refine Ev.bind (valid_ev p (by omega) (vp_small hv)) ?_
  have h1 : ¬ (16 : Int) < (d.length : Int) := by omega
  simp only [hv, if_true, isDigits_eq (b d) (by rw [b_size]; omega), b_data, hd, Option.bind_some, b_size, h1, if_false, isPhase_eq, hp, rest_eq p hv ph d hd hl]
  exact Ev.now _
end Go.Proofs.YtlmfoblgheepoaaGreatDoor.Pure
end
section
namespace Go.Proofs.YtlmfoblgheepoaaGreatDoor.Pure
open Go.RowKit Go.Proofs.YtlmfoblgheepoaaGreatDoorW.PrintWords Go.Proofs.YtlmfoblgheepoaaGreatDoorW.PrintLast Go.Proofs.YtlmfoblgheepoaaGreatDoorW.PrintMore Go.Proofs.YtlmfoblgheepoaaGreatDoor.Pl
set_option linter.unusedVariables false
set_option linter.unusedSimpArgs false
def Ints1 (l : List Int) : Prop := ∀ x ∈ l, J64 x
theorem text_from (l : List Int) (hl : Ints1 l) : ∀ m i : Nat, m + i = l.length → ∀ s : D, digs s = true → s.length = i → i ≤ 17 → ∃ t : D, digs t = true ∧ t.length = min 17 l.length ∧ Ev (fun k => dialtonelaw12_text.l0 k l (b s) (i : Int)) (b t) := by
  intro m
  induction m with
  | zero =>
    intro i hi s hd hs h17
    refine ⟨s, hd, by omega, Ev.step (fun k => by rw [dialtonelaw12_text.l0]) ?_⟩
    have h1 : ¬ ((i : Int) < l.length) := by omega
    simp only [h1, if_false]
    exact Ev.now _
  | succ m ih =>
    intro i hi s hd hs h17
    have h1 : ((i : Int) < l.length) := by omega
    have hil : i < l.length := by omega
    by_cases h : i < 17
    · have h2 : ((i : Int) < 17) := by omega
      have h3 : (0 : Int) ≤ i := by omega
      have hr : rd l (i : Int) = l[i] := by unfold rd; simp [hil]
      obtain ⟨r, lr, er⟩ := pick_lt l[i] (hl _ (List.getElem_mem hil)) 10 (by decide)
      have er' : dialtonelaw12_pick.f l[i] 10 = some (r : Int) := er
      have hb : strOfNums [wrap64 (48 + (r : Int)) % 256] = b [dg r] := by
        have := one_dig r
        rw [Int.tmod_eq_emod_of_nonneg (by omega)] at this
        have e : (r : Int) % 10 = r := by omega
        rw [e] at this
        exact this
      obtain ⟨t, ht1, ht2, ht3⟩ := ih (i + 1) (by omega) (s ++ [dg r]) (by rw [digs_append, hd]; simp [digs, dg_isD]) (by simp; omega) (by omega)
      refine ⟨t, ht1, ht2, Ev.step (fun k => by rw [dialtonelaw12_text.l0]) ?_⟩
      have h4 : (b s).size + (b [dg r]).size ≤ 9223372036854775807 := by rw [b_size, b_size]; simp; omega
      simp only [h1, h2, h3, if_true, hr, er', Option.bind_some, hb, h4, b_append, wi i (by omega)]
      exact ht3
    · have h2 : ¬ ((i : Int) < 17) := by omega
      refine ⟨s, hd, by omega, Ev.step (fun k => by rw [dialtonelaw12_text.l0]) ?_⟩
      simp only [h1, h2, if_true, if_false]
      exact Ev.now _
theorem text_ev (l : List Int) (hl : Ints1 l) : ∃ t : D, digs t = true ∧ t.length = min 17 l.length ∧ Ev (fun k => dialtonelaw12_text.f k l) (b t) := by
  obtain ⟨t, h1, h2, h3⟩ := text_from l hl l.length 0 (by omega) [] rfl rfl (by omega)
  exact ⟨t, h1, h2, by simpa [dialtonelaw12_text.f, b] using h3⟩
theorem text_take (l : List Int) (hl : Ints1 l) (n : Nat) (hn : n ≤ 17) (hlen : l.length ≤ 9223372036854775807) : ∃ t : D, digs t = true ∧ t.length ≤ n ∧ (0 : Int) ≤ mn (l.length : Int) n ∧ mn (l.length : Int) n ≤ l.length ∧ Ev (fun k => dialtonelaw12_text.f k (l.take (mn (l.length : Int) n).toNat)) (b t) := by
  obtain ⟨t, h1, h2, h3⟩ := text_ev (l.take (mn (l.length : Int) n).toNat) (fun x hx => hl x (List.mem_of_mem_take hx))
  have hm : 0 ≤ mn (l.length : Int) n ∧ mn (l.length : Int) n ≤ l.length ∧ mn (l.length : Int) n ≤ n := by unfold mn; split <;> omega
  refine ⟨t, h1, ?_, hm.1, hm.2.1, h3⟩
  rw [h2, List.length_take]; omega
end Go.Proofs.YtlmfoblgheepoaaGreatDoor.Pure
end
section
namespace Go.Proofs.YtlmfoblgheepoaaGreatDoor.Pure
open Go.RowKit Go.Proofs.YtlmfoblgheepoaaGreatDoorW.PrintWords Go.Proofs.YtlmfoblgheepoaaGreatDoorW.PrintLast Go.Proofs.YtlmfoblgheepoaaGreatDoorW.PrintMore Go.Proofs.YtlmfoblgheepoaaGreatDoor.Pl
set_option linter.unusedVariables false
set_option linter.unusedSimpArgs false
theorem rE_hit {l : List En} (h : l.Pairwise (fun e f => apt e.key f.key = true)) {e : En} (he : e ∈ l) {d : D} (hp : e.key <+: d) : rE l d = hitS e d := by
  unfold rE
  cases hf : l.find? (fun e => e.key.isPrefixOf d) with
  | none =>
    have := List.find?_eq_none.mp hf e he
    rw [List.isPrefixOf_iff_prefix] at this
    exact absurd hp this
  | some f =>
    have h1 := List.find?_some hf
    have h2 := List.mem_of_find?_eq_some hf
    rw [List.isPrefixOf_iff_prefix] at h1
    rw [pair_hit h he h2 hp h1]
theorem hit_num {e : En} {d : D} (h : ¬ (d.length : Int) < e.len) : hitS e d = (2, (val (e.st ++ (d.drop e.key.length).take (e.len.toNat - e.key.length)) : Int), e.idx, e.len, 0) := by unfold hitS; rw [if_neg h]
theorem form_hit {p : List S29} (hv : vp p = true) {m : Nat} (hm : m ≤ 99999999) {ph : Int} {f : D} {e : En} (hF : Form p m ph f e) {ph' : Int} (h1 : ph = 1 → ph' ≠ 3) (h2 : ph ≠ 1 → ph' ≠ 1) (x : D) : rS p (f ++ x) ph' = (2, (m : Int), e.idx, (f.length : Int), 0) := by
  have he := hF.mem ph' h1 h2
  have hp : e.key <+: f ++ x := hF.pre.trans (List.prefix_append _ _)
  have hk := hF.pre.length_le
  have hl := hF.len
  unfold rS
  rw [rE_hit (ents_apt hv ph') he hp, hit_num (by rw [List.length_append]; omega)]
  have e1 : ((f ++ x).drop e.key.length).take (e.len.toNat - e.key.length) = f.drop e.key.length := by
    rw [List.drop_append_of_le_length hk, List.take_append_of_le_length (by rw [List.length_drop]; omega), List.take_of_length_le (by rw [List.length_drop]; omega)]
  have e2 : m % 10 ^ 8 = m := Nat.mod_eq_of_lt (by omega)
  rw [e1, hF.num, val_eightK, e2, hl]
end Go.Proofs.YtlmfoblgheepoaaGreatDoor.Pure
end
section
namespace Go.Proofs.YtlmfoblgheepoaaGreatDoor.Pure
open Go.RowKit Go.Proofs.YtlmfoblgheepoaaGreatDoorW.PrintWords Go.Proofs.YtlmfoblgheepoaaGreatDoorW.PrintLast Go.Proofs.YtlmfoblgheepoaaGreatDoorW.PrintMore Go.Proofs.YtlmfoblgheepoaaGreatDoor.Pl
set_option linter.unusedVariables false
set_option linter.unusedSimpArgs false
theorem wS_first {p : List S29} (hv : vp p = true) (m : Nat) (ph : Int) : digs (wS p m ph).1 = true ∧ (wS p m ph).1.length ≤ 8 := by
  rcases wS_form hv m ph with hW | ⟨f, e, hW, hF⟩
  · rw [hW]; exact ⟨rfl, by decide⟩
  · rw [hW]
    refine ⟨hF.dig, ?_⟩
    have := hF.len
    by_cases h : ph = 1
    · have := hF.old h; show f.length ≤ 8; omega
    · have := (hF.new h).1; show f.length ≤ 8; omega
end Go.Proofs.YtlmfoblgheepoaaGreatDoor.Pure
end
