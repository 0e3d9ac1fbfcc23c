/- Fo: part 2 of the proof that the law's row holds: the printed walk of the program's functions, the plain law, the row. -/
import Derived.Test.YtlmfoblgheepoaaGreatDoorProg
import Derived.Below
import Derived.Deep.Draws
import Derived.Deep.AppendLies
import Derived.Maps.AppendAt
import Derived.OwnWalk
import Derived.Laws.BytesArg
import Derived.Laws.MakeOwn
import Derived.Laws.OwnMore
import Derived.Deep.OwnRows
import Derived.Tactics
import Derived.Lib.ConvBytes
import Derived.Laws.Slices
import Derived.WalkKit
import Derived.KernelRfl
import Derived.RowKit3
import Derived.Deep.LoopGhost
import Derived.Deep.QuietTactic
import Derived.BigQuiet
import Derived.WideLaws
import Derived.Deep.DeepCutAuto
import Derived.Deep.CutBlock
import Derived.Deep.RegionHeld3
import Derived.Laws.Rows
import Derived.Lib.AppendStr
import Derived.ArgAppend
import Derived.Laws.IdiomCopy
import Derived.OrdersHeld
import Derived.Laws.BitsLemmas
import Derived.RowKit
import Derived.Sort.KeysCollected
import Derived.WalkSpells
import Derived.Test.YtlmfoblgheepoaaGreatDoorQFo0
namespace Go.Proofs.YtlmfoblgheepoaaGreatDoor.Z
theorem zr5 {p : Prop} (h : p := by first | rfl | (simp [errW_none, errW_some] <;> rfl) | (simp [*, errW_none, errW_some] <;> rfl)) : p := h
theorem zr7 {p : Prop} (h : p := by exact Glb.below HGLB.out (by repeat (first | (with_reducible first | exact HB.out | apply below_alloc | apply pw_below_drewN | apply below_drew1 | refine below_set ?_ GE498.out) | exact HB.out))) : p := h
theorem zr8 {p : Prop} (h : p := by repeat (first | (with_reducible first | exact HB.out | apply below_alloc | apply pw_below_drewN | apply below_drew1 | refine below_set ?_ GE498.out) | exact HB.out)) : p := h
theorem zr9 {p : Prop} (h : p := by (with_reducible repeat (first | refine blk_drewN ?_ _ | refine blk_drew ?_ | refine blk_alloc ?_ _)); exact BK498.out) : p := h
theorem zr12 {p : Prop} (h : p := by repeat (first | exact (Kd.R_reads' HO502.out).2.2 | (with_reducible refine Kd.C_alloc ?_ _) | (with_reducible refine Kd.C_drewN ?_ _) | (with_reducible refine Kd.C_drew ?_))) : p := h
theorem zr13 {p : Prop} (h : p := by exact (Kd.R_reads' HO502.out).2.1) : p := h
theorem zr14 {p : Prop} (h : p := by (with_reducible repeat (first | apply Kd.R_alloc | apply Kd.R_drewN | apply Kd.R_drew)); exact HO502.out) : p := h
theorem zr15 {p : Prop} (h : p := by rw [hg]; exact (below_size (by repeat (first | (with_reducible first | exact HB.out | apply below_alloc | apply pw_below_drewN | apply below_drew1 | refine below_set ?_ GE498.out) | exact HB.out)))) : p := h
theorem zr16 {p : Prop} (h : p := by rw [hg]; exact Nat.ne_of_lt (blk_lt (g := gb498) (o := .cells #[.int .i64 a1_0, .int .i64 a1_1] 50 (0, 0)) (by (with_reducible repeat (first | refine blk_drewN ?_ _ | refine blk_drew ?_ | refine blk_alloc ?_ _)); exact BK498.out))) : p := h
theorem zr17 {p : Prop} (h : p := by rw [hg]; exact Nat.ne_of_gt (blk_lt (g := gb498) (o := .cells #[.int .i64 a1_0, .int .i64 a1_1] 50 (0, 0)) (by (with_reducible repeat (first | refine blk_drewN ?_ _ | refine blk_drew ?_ | refine blk_alloc ?_ _)); exact BK498.out))) : p := h
theorem zr18 {p : Prop} (h : p := by (with_reducible repeat (first | apply Kd.R_alloc | apply Kd.R_drewN | apply Kd.R_drew)); exact HO_10.out) : p := h
theorem zr19 {p : Prop} (h : p := by repeat (first | exact (Kd.R_reads' HO_10.out).2.2 | (with_reducible refine Kd.C_alloc ?_ _) | (with_reducible refine Kd.C_drewN ?_ _) | (with_reducible refine Kd.C_drew ?_))) : p := h
theorem zr20 {p : Prop} (h : p := by exact (Kd.R_reads' HO_10.out).2.1) : p := h
theorem zr21 {p : Prop} (h : p := by exact Glb.below HGLB.out (by repeat (first | (with_reducible first | exact HB.out | apply below_alloc | apply pw_below_drewN | apply below_drew1 | refine below_set ?_ GE498.out | refine below_set ?_ GE520.out) | exact HB.out))) : p := h
theorem zr22 {p : Prop} (h : p := by repeat (first | (with_reducible first | exact HB.out | apply below_alloc | apply pw_below_drewN | apply below_drew1 | refine below_set ?_ GE498.out | refine below_set ?_ GE520.out) | exact HB.out)) : p := h
theorem zr23 {p : Prop} (h : p := by (with_reducible repeat (first | refine blk_drewN ?_ _ | refine blk_drew ?_ | refine blk_alloc ?_ _)); exact BK520.out) : p := h
theorem zr24 {p : Prop} (h : p := by repeat (first | (with_reducible first | exact HB.out | apply below_alloc | apply pw_below_drewN | apply below_drew1 | refine below_set ?_ GE498.out | refine below_set ?_ GE512.out) | exact HB.out)) : p := h
theorem zr25 {p : Prop} (h : p := by (with_reducible repeat (first | apply Kd.R_alloc | apply Kd.R_drewN | apply Kd.R_drew)); exact Kd.R_mono (Kd.R_far (p := ⟨gb520, 3, none⟩) (Kd.R_far (p := ⟨gb520, 2, none⟩) (Kd.R_far (p := ⟨gb520, 1, none⟩) (Kd.R_far (p := ⟨gb520, 0, none⟩) (Kd.R_types HO_10.out BK520.out (by decide)) (fun _ hk => hk.2) (.int .i64 t515)) (fun _ hk => hk.2) (.int .i64 t516)) (fun _ hk => hk.2) (.int .i64 t517)) (fun _ hk => hk.2) (.int .i64 t518)) (fun _ hk => trivial)) : p := h
theorem zr26 {p : Prop} (h : p := by (with_reducible repeat (first | refine blk_drewN ?_ _ | refine blk_drew ?_ | refine blk_alloc ?_ _)); refine blk_far ?_ NB498_520.out _; (with_reducible repeat (first | refine blk_drewN ?_ _ | refine blk_drew ?_ | refine blk_alloc ?_ _)); refine blk_far ?_ NB498_520.out _; (with_reducible repeat (first | refine blk_drewN ?_ _ | refine blk_drew ?_ | refine blk_alloc ?_ _)); refine blk_far ?_ NB498_520.out _; (with_reducible repeat (first | refine blk_drewN ?_ _ | refine blk_drew ?_ | refine blk_alloc ?_ _)); refine blk_far ?_ NB498_520.out _; (with_reducible repeat (first | refine blk_drewN ?_ _ | refine blk_drew ?_ | refine blk_alloc ?_ _)); exact BK498.out) : p := h
theorem zr27 {p : Prop} (h : p := by (with_reducible repeat (first | refine blk_drewN ?_ _ | refine blk_drew ?_ | refine blk_alloc ?_ _)); refine blk_put (cs := #[.int .i64 t515, .int .i64 t516, .int .i64 t517, .int .i64 0]) ?_ 3 _ rfl; (with_reducible repeat (first | refine blk_drewN ?_ _ | refine blk_drew ?_ | refine blk_alloc ?_ _)); refine blk_put (cs := #[.int .i64 t515, .int .i64 t516, .int .i64 0, .int .i64 0]) ?_ 2 _ rfl; (with_reducible repeat (first | refine blk_drewN ?_ _ | refine blk_drew ?_ | refine blk_alloc ?_ _)); refine blk_put (cs := #[.int .i64 t515, .int .i64 0, .int .i64 0, .int .i64 0]) ?_ 1 _ rfl; (with_reducible repeat (first | refine blk_drewN ?_ _ | refine blk_drew ?_ | refine blk_alloc ?_ _)); refine blk_put (cs := #[.int .i64 0, .int .i64 0, .int .i64 0, .int .i64 0]) ?_ 0 _ rfl; (with_reducible repeat (first | refine blk_drewN ?_ _ | refine blk_drew ?_ | refine blk_alloc ?_ _)); exact BK520.out) : p := h
theorem zr28 {p : Prop} (h : p := by first | rfl | (simp [errW_none, errW_some] <;> rfl) | (simp only [← hji55]; first | rfl | (simp [errW_none, errW_some] <;> rfl)) | (simp [*, errW_none, errW_some] <;> rfl)) : p := h
end Go.Proofs.YtlmfoblgheepoaaGreatDoor.Z
section
open Go.Proofs.YtlmfoblgheepoaaGreatDoor.Z
namespace Go.Proofs.YtlmfoblgheepoaaGreatDoor.Pl
open Go.RowKit Go.Proofs.YtlmfoblgheepoaaGreatDoorW.PrintWords Go.Proofs.YtlmfoblgheepoaaGreatDoorW.PrintLast Go.Proofs.YtlmfoblgheepoaaGreatDoorW.PrintMore
attribute [local go_sem] max2_int min2_int max_two min_two max_three min_three max_four min_four
set_option linter.unusedVariables false
set_option linter.unusedSimpArgs false
theorem info3 : (Tryz.prog.info? 3).map (fun i => (i.zero, i.size, i.bytes)) = some (some (.int .i64 0), 1, 8) := by kernel_rfl
end Go.Proofs.YtlmfoblgheepoaaGreatDoor.Pl
end
section
open Go.Proofs.YtlmfoblgheepoaaGreatDoor.Z
namespace Go.Proofs.YtlmfoblgheepoaaGreatDoor.Pl
open Go.RowKit Go.Proofs.YtlmfoblgheepoaaGreatDoorW.PrintWords Go.Proofs.YtlmfoblgheepoaaGreatDoorW.PrintLast Go.Proofs.YtlmfoblgheepoaaGreatDoorW.PrintMore
attribute [local go_sem] max2_int min2_int max_two min_two max_three min_three max_four min_four
set_option linter.unusedVariables false
set_option linter.unusedSimpArgs false
def dialtonelaw12_text.l0 : Nat → List Int → ByteArray → Int → Option (ByteArray)
 | 0, _, _, _ => none
 | k + 1, x0, x3, x4 => if x4 < (x0.length : Int) then (if x4 < 17 then (if 0 ≤ x4 then ((dialtonelaw12_pick.f (rd x0 x4) 10).bind fun t309 => ((some (([(wrap64 (48 + t309)) % 256] : List Int) : List Int)).bind fun y310 => (if x3.size + (strOfNums y310).size ≤ 9223372036854775807 then (dialtonelaw12_text.l0 k x0 (x3 ++ (strOfNums y310)) (wrap64 (x4 + 1))) else (none)))) else (none)) else (some x3)) else (some x3)
def dialtonelaw12_text.f (k : Nat) (l0 : List Int) : Option (ByteArray) := dialtonelaw12_text.l0 k l0 (⟨#[]⟩ : ByteArray) 0
set_option maxHeartbeats 8000000 in
set_option maxRecDepth 100000 in
theorem dialtonelaw12_text.calls (k : Nat) (A0 : Option Addr) (c0 : Nat) (l0 : List Int) (r : ByteArray) (w : World) (hr0 : Kd.C (Kd.int .i64) w A0 l0.length l0) (hc0 : l0.length ≤ c0) (h : dialtonelaw12_text.f k l0 = some r) :
 Calls Tryz.prog 15 #[.slice A0 l0.length c0] w fun e w' => e = .returned (.string r) ∧ Below w.heap.size w w' := by
 have HR0 := Aside0.mk hr0
 have HC0 := Aside0.mk hc0
 clear hr0 hc0
 have HB := Aside0.mk (Below.refl w.heap.size w)
 have H : (dialtonelaw12_text.l0 k l0 (⟨#[]⟩ : ByteArray) 0) = some r := h
 clear h
 have H' := Aside0.mk H
 clear H
 go_enter Tryz.func15, Tryz.ntmps15
 go_wp2
 go_loopg [3, 4] k (fun kq v3 v4 w' => ∃ (x3_1 : ByteArray) (x4_1 : Int), v3 = .string x3_1 ∧ v4 = .int .i64 x4_1 ∧ Aside0 (dialtonelaw12_text.l0 kq l0 x3_1 x4_1 = some r) ∧ Aside0 (kq ≤ k) ∧ Aside0 (Below w.heap.size w w'))
 case atStart => exact ⟨((⟨#[]⟩ : ByteArray)), (0), (zq6), (zq6), H', ⟨Nat.le_refl _⟩, ⟨zq1⟩⟩
 case round =>
  clear H'
  try clear c1
  obtain ⟨x3_1, x4_1, rfl, rfl, HA, HK1, HB⟩ := hrel
  cases gk with
  | zero => exact absurd HA.out (by simp [dialtonelaw12_text.l0])
  | succ k1 =>
   have H := HA.out
   clear HA
   simp only [dialtonelaw12_text.l0] at H
   by_cases c2 : x4_1 < (l0.length : Int)
   rotate_left
   ·rw [if_neg c2] at H
    have c2b0 : decide (x4_1 < (l0.length : Int)) = false := decide_eq_false c2
    clear c2
    obtain rfl := Option.some.inj H
    go_wp2
    go_ret
    exact ⟨zr5, zq1⟩
   rw [if_pos c2] at H
   have c2b0 : decide (x4_1 < (l0.length : Int)) = true := decide_eq_true c2
   clear c2
   by_cases c3 : x4_1 < 17
   rotate_left
   ·rw [if_neg c3] at H
    have c3b0 : decide (x4_1 < 17) = false := decide_eq_false c3
    clear c3
    obtain rfl := Option.some.inj H
    go_wp2
    go_ret
    exact ⟨zr5, zq1⟩
   rw [if_pos c3] at H
   have c3b0 : decide (x4_1 < 17) = true := decide_eq_true c3
   clear c3
   by_cases c4 : 0 ≤ x4_1
   rotate_left
   ·rw [if_neg c4] at H
    exact absurd H (by simp)
   rw [if_pos c4] at H
   have c4b0 : decide (0 ≤ x4_1) = true := decide_eq_true c4
   clear c4
   replace H := Option.bind_eq_some_iff.mp H
   obtain ⟨t309, A50, H⟩ := H
   try dsimp only at H
   have A5 := Aside0.mk A50
   clear A50
   obtain ⟨y310, hy310⟩ : ∃ y_ : List Int, y_ = (([(wrap64 (48 + t309)) % 256] : List Int)) := ⟨_, rfl⟩
   replace H : (if x3_1.size + (strOfNums y310).size ≤ 9223372036854775807 then (dialtonelaw12_text.l0 k1 l0 (x3_1 ++ (strOfNums y310)) (wrap64 (x4_1 + 1))) else (none)) = some r := by first | (rw [hy310]; with_reducible exact H) | (have H2_ := (Option.bind_some _ _).symm.trans H; rw [hy310]; with_reducible exact H2_) | (have H2_ := (Option.bind_some _ _).symm.trans H; with_reducible exact H2_) | with_reducible exact H | (rw [hy310]; exact H) | exact H
   have Ny310 := Aside0.mk hy310
   clear hy310
   by_cases c6 : x3_1.size + (strOfNums y310).size ≤ 9223372036854775807
   rotate_left
   ·rw [if_neg c6] at H
    exact absurd H (by simp)
   rw [if_pos c6] at H
   have c6b0 := eq_true c6
   have c6b1 : decide (x3_1.size + (strOfNums y310).size ≤ 9223372036854775807) = true := decide_eq_true c6
   try have c6b2 : (9223372036854775807 < x3_1.size + (strOfNums y310).size) = False := eq_false (Nat.not_lt.2 c6)
   have H' := Aside0.mk H
   clear H
   have p308 : 0 ≤ (x4_1 : Int) := of_decide_eq_true (zq14)
   have q308 : x4_1 < (l0.length : Int) := of_decide_eq_true (zq14)
   obtain ⟨ad308, e308, hx308_0⟩ := Kd.at_int HR0.out x4_1 p308 q308
   cases e308
   replace hx308_0 := (HB.out.cell (World.block_lt_of_cell? w _ hx308_0)).trans hx308_0
   replace p308 := eq_true p308
   replace q308 := eq_true q308
   go_wp2_with (first | ((with_reducible refine gate_callee (f := 16) rfl ?_); refine goesL_ (some 20) rfl rfl Tryz.func16 (by kernel_rfl) rfl #[.int .i64 (rd l0 x4_1), .int .i64 10] rfl (zq3) ?_; (with_reducible refine (dialtonelaw12_pick.calls (rd l0 x4_1) 10 t309 _ A5.out).mono ?_); rintro e w' ⟨rfl, ⟨nd, rfl⟩⟩; refine ⟨_, rfl, ?_⟩) | ((with_reducible refine gate_dst (N := 23) rfl ?_); refine Kd.R_lit (Kd.int .u8) _ 5 ?hg (N := 23) ?hd (xs := ([(wrap64 (48 + t309)) % 256] : List Int)) (inner := [.int .u8 ((wrap64 (48 + t309)) % 256)]) (ok := fun _ => True) (okp := fun _ => True) ?hr ?hp (fun _ hk => hk) trivial (Below.refl _ _) (Nat.le_refl _) (by simp) ?_; (case hd => rfl); (case hg => rfl); (case hr => exact zq0); (case hp => exact (Reps.one (show Kd.M (Kd.int .u8) _ _ _ ((wrap64 (48 + t309)) % 256) [.int .u8 ((wrap64 (48 + t309)) % 256)] from rfl) (Reps.none _ _))); intro v311 w7 ho8 hb hg_ hnew_; clear hg_ hnew_; (first | rw [← Ny310.out] at ho8 | (simp only [Int.reduceToNat] at ho8; rw [← Ny310.out] at ho8)); have n0_ := Aside0.mk (Kd.R_lower ho8 (below_size (zq1))); have n1_ := Aside0.mk (below_step (zq1) hb); clear HB; have HO312 := n0_; have HB := n1_; clear n0_ n1_; clear hb ho8; have hcv9 := own_string (P := Tryz.prog) Tryz.underlying65 Tryz.underlying5 Tryz.underlying9 (Kd.own_of_R HO312.out)))
   go_roundg k1
   case measure => have := HK1.out; omega
   case rel => exact ⟨(x3_1 ++ (strOfNums y310)), (wrap64 (x4_1 + 1)), (zq6), (zq6), H', ⟨by have := HK1.out; omega⟩, ⟨zq1⟩⟩
end Go.Proofs.YtlmfoblgheepoaaGreatDoor.Pl
end
section
open Go.Proofs.YtlmfoblgheepoaaGreatDoor.Z
namespace Go.Proofs.YtlmfoblgheepoaaGreatDoor.Pl
open Go.RowKit Go.Proofs.YtlmfoblgheepoaaGreatDoorW.PrintWords Go.Proofs.YtlmfoblgheepoaaGreatDoorW.PrintLast Go.Proofs.YtlmfoblgheepoaaGreatDoorW.PrintMore
attribute [local go_sem] max2_int min2_int max_two min_two max_three min_three max_four min_four
set_option linter.unusedVariables false
set_option linter.unusedSimpArgs false
mutual
def dialtonelaw12_PlanForms.j0 : Nat → List Int → List (S29) → Int → ByteArray → Option (Bool)
 | 0, _, _, _, _ => none
 | k + 1, x2, x10, x11, x13 => if 0 ≤ (mn (x2.length : Int) 8) then (if (mn (x2.length : Int) 8) ≤ (x2.length : Int) then ((dialtonelaw12_text.f k (x2.take ((mn (x2.length : Int) 8) : Int).toNat)).bind fun t514 => (if x13.size + t514.size ≤ 9223372036854775807 then ((plan_Read.f k x10 (x13 ++ t514) x11).bind fun bt515 => (if bt515.2.2.2.2 = 0 then (dialtonelaw12_PlanForms.j1 k x10 x11 (x13 ++ t514) bt515.2.2.2.2 (bt515.1 != 2) bt515.1 bt515.2.1 bt515.2.2.1 bt515.2.2.2.1) else (dialtonelaw12_PlanForms.j1 k x10 x11 (x13 ++ t514) bt515.2.2.2.2 true bt515.1 bt515.2.1 bt515.2.2.1 bt515.2.2.2.1))) else (none))) else (none)) else (none)
def dialtonelaw12_PlanForms.j1 : Nat → List (S29) → Int → ByteArray → Int → Bool → Int → Int → Int → Int → Option (Bool)
 | 0, _, _, _, _, _, _, _, _, _ => none
 | k + 1, x10, x11, x17, x19, x107, x521000, x521001, x521002, x521003 => if x107 = true then (if x19 = 0 then (if x521001 = 0 then (if x521002 = 0 then (some (x521003 == 0)) else (some false)) else (some false)) else (some false)) else ((plan_Write.f k x10 x521001 1).bind fun bt521 => ((plan_Write.f k x10 x521001 3).bind fun bt523 => (if bt523.2 = 0 then (if x521003 > (x17.size : Int) then (some false) else (if 0 ≤ x521003 then (if x521003 ≤ (x17.size : Int) then (if (x17.extract 0 (x521003 : Int).toNat).toList = bt523.1.toList then (if x11 = 1 then (if bt521.2 = 0 then (if (x17.extract 0 (x521003 : Int).toNat).toList = bt521.1.toList then (some (x11 != 3)) else (some false)) else (some false)) else (some true)) else (if bt521.2 = 0 then (if (x17.extract 0 (x521003 : Int).toNat).toList = bt521.1.toList then (some (x11 != 3)) else (some false)) else (some false))) else (none)) else (none))) else (some false))))
end
def dialtonelaw12_PlanForms.f (k : Nat) (l0 : List (S23)) (a1_0 : Int) (a1_1 : Int) (l2 : List Int) (a3 : Int) : Option (Bool) := (dialtonelaw12_sane.f k).bind fun t499 => (if t499 = true then ((dialtoneref12_Made.f k l0).bind fun t500 => ((dialtonelaw12_pick.f a3 3).bind fun t503 => ((dialtoneref12_Number.f k t500 a1_0 a1_1).bind fun t504 => ((plan_Write.f k t500 t504 (wrap64 (1 + t503))).bind fun bt505 => (if bt505.2 = 0 then ((plan_Read.f k t500 bt505.1 (wrap64 (1 + t503))).bind fun bt507 => (if bt507.2.2.2.2 = 0 then (if bt507.1 = 2 then (if bt507.2.1 = t504 then (if bt507.2.2.2.1 = (bt505.1.size : Int) then (if bt507.2.2.1 < 0 then (some false) else (if bt507.2.2.1 ≥ (t500.length : Int) then (some false) else (dialtonelaw12_PlanForms.j0 k l2 t500 (wrap64 (1 + t503)) bt505.1))) else (some false)) else (some false)) else (some false)) else (some false))) else (dialtonelaw12_PlanForms.j0 k l2 t500 (wrap64 (1 + t503)) bt505.1)))))) else (some false))
set_option maxHeartbeats 8000000 in
set_option maxRecDepth 100000 in
theorem dialtonelaw12_PlanForms.calls (k : Nat) (A0 : Option Addr) (c0 : Nat) (l0 : List (S23)) (a1_0 : Int) (a1_1 : Int) (A2 : Option Addr) (c2 : Nat) (l2 : List Int) (a3 : Int) (r : Bool) (w : World) (hr0 : Kd.C k23 w A0 l0.length l0) (hc0 : l0.length ≤ c0) (hr2 : Kd.C (Kd.int .i64) w A2 l2.length l2) (hc2 : l2.length ≤ c2) (hG : Glb w) (h : dialtonelaw12_PlanForms.f k l0 a1_0 a1_1 l2 a3 = some r) :
 Calls Tryz.prog 7 #[.slice A0 l0.length c0, .agg #[.int .i64 a1_0, .int .i64 a1_1], .slice A2 l2.length c2, .int .i64 a3] w fun e w' => e = .returned (.bool r) ∧ Below w.heap.size w w' := by
 have HGLB := Aside0.mk hG
 clear hG
 have hu50 := Tryz.underlying50
 have hu44 := Tryz.underlying44
 have HR0 := Aside0.mk hr0
 have HC0 := Aside0.mk hc0
 clear hr0 hc0
 have HR2 := Aside0.mk hr2
 have HC2 := Aside0.mk hc2
 clear hr2 hc2
 have HB := Aside0.mk (Below.refl w.heap.size w)
 have H : ((dialtonelaw12_sane.f k).bind fun t499 => (if t499 = true then ((dialtoneref12_Made.f k l0).bind fun t500 => ((dialtonelaw12_pick.f a3 3).bind fun t503 => ((dialtoneref12_Number.f k t500 a1_0 a1_1).bind fun t504 => ((plan_Write.f k t500 t504 (wrap64 (1 + t503))).bind fun bt505 => (if bt505.2 = 0 then ((plan_Read.f k t500 bt505.1 (wrap64 (1 + t503))).bind fun bt507 => (if bt507.2.2.2.2 = 0 then (if bt507.1 = 2 then (if bt507.2.1 = t504 then (if bt507.2.2.2.1 = (bt505.1.size : Int) then (if bt507.2.2.1 < 0 then (some false) else (if bt507.2.2.1 ≥ (t500.length : Int) then (some false) else (dialtonelaw12_PlanForms.j0 k l2 t500 (wrap64 (1 + t503)) bt505.1))) else (some false)) else (some false)) else (some false)) else (some false))) else (dialtonelaw12_PlanForms.j0 k l2 t500 (wrap64 (1 + t503)) bt505.1)))))) else (some false))) = some r := h
 clear h
 replace H := Option.bind_eq_some_iff.mp H
 obtain ⟨t499, A50, H⟩ := H
 try dsimp only at H
 have A5 := Aside0.mk A50
 clear A50
 by_cases c6 : t499 = true
 rotate_left
 ·replace c6 := Bool.eq_false_iff.mpr c6
  subst c6
  rw [if_neg (show ¬ (false = true) by decide)] at H
  obtain rfl := Option.some.inj H
  go_enter Tryz.func7, Tryz.ntmps7
  go_wp2_with (first | ((with_reducible refine gate_dst (N := 5) rfl ?_); (try (refine gate_guard (by rfl) ?_; dsimp only)); refine box_event ?hg (N := 5) ?hd (cs := #[.int .i64 a1_0, .int .i64 a1_1]) (t := 50) ?hr ?_; (case hd => rfl); (case hg => rfl); (case hr => exact zq0); intro gb498 hg w150 hbox hb; have n0_ := Aside0.mk (below_step (zq1) hb); have n1_ := Aside0.mk (hbox); have n2_ := Aside0.mk ((zq2 : w.heap.size ≤ gb498)); have n3_ := Aside0.mk ((zq2 : w.heap.size ≤ gb498)); clear HB; have HB := n0_; have BK498 := n1_; have GW498 := n2_; have GE498 := n3_; clear n0_ n1_ n2_ n3_; clear hb hbox hg) | ((with_reducible refine gate_callee (f := 11) rfl ?_); refine goesL_ (some 24) rfl rfl Tryz.func11 (by kernel_rfl) rfl #[] rfl (zq3) ?_; (with_reducible refine (dialtonelaw12_sane.calls k  false _ ?side1 A5.out).mono ?_); (case side1 => exact zr7); rintro e w151 ⟨rfl, hb⟩; refine ⟨_, rfl, ?_⟩; have n0_ := Aside0.mk (blk_below (g := gb498) (o := .cells #[.int .i64 a1_0, .int .i64 a1_1] 50 (0, 0)) (zr9) hb); have n1_ := Aside0.mk (below_step (zr8) hb); clear BK498; clear HB; have BK498 := n0_; have HB := n1_; clear n0_ n1_; (try clear hb); (try clear hb2); (try clear hk); (try clear hi)))
  go_ret
  exact ⟨zr5, zr8⟩
 subst c6
 rw [if_pos rfl] at H
 replace H := Option.bind_eq_some_iff.mp H
 obtain ⟨t500, A70, H⟩ := H
 try dsimp only at H
 have A7 := Aside0.mk A70
 clear A70
 replace H := Option.bind_eq_some_iff.mp H
 obtain ⟨t503, A80, H⟩ := H
 try dsimp only at H
 have A8 := Aside0.mk A80
 clear A80
 replace H := Option.bind_eq_some_iff.mp H
 obtain ⟨t504, A90, H⟩ := H
 try dsimp only at H
 have A9 := Aside0.mk A90
 clear A90
 replace H := Option.bind_eq_some_iff.mp H
 obtain ⟨⟨t505, t506⟩, A100, H⟩ := H
 try dsimp only at H
 have A10 := Aside0.mk A100
 clear A100
 have HC11 := Aside0.mk H
 clear H
 go_enter Tryz.func7, Tryz.ntmps7
 go_upto_if 46 with (first | ((with_reducible refine gate_dst (N := 5) rfl ?_); (try (refine gate_guard (by rfl) ?_; dsimp only)); refine box_event ?hg (N := 5) ?hd (cs := #[.int .i64 a1_0, .int .i64 a1_1]) (t := 50) ?hr ?_; (case hd => rfl); (case hg => rfl); (case hr => exact zq0); intro gb498 hg w12 hbox hb; have n0_ := Aside0.mk (below_step (zq1) hb); have n1_ := Aside0.mk (hbox); have n2_ := Aside0.mk ((zq2 : w.heap.size ≤ gb498)); have n3_ := Aside0.mk ((zq2 : w.heap.size ≤ gb498)); clear HB; have HB := n0_; have BK498 := n1_; have GW498 := n2_; have GE498 := n3_; clear n0_ n1_ n2_ n3_; clear hb hbox hg) | ((with_reducible refine gate_callee (f := 11) rfl ?_); refine goesL_ (some 24) rfl rfl Tryz.func11 (by kernel_rfl) rfl #[] rfl (zq3) ?_; (with_reducible refine (dialtonelaw12_sane.calls k  true _ ?side1 A5.out).mono ?_); (case side1 => exact zr7); rintro e w13 ⟨rfl, hb⟩; refine ⟨_, rfl, ?_⟩; have n0_ := Aside0.mk (blk_below (g := gb498) (o := .cells #[.int .i64 a1_0, .int .i64 a1_1] 50 (0, 0)) (zr9) hb); have n1_ := Aside0.mk (below_step (zr8) hb); clear BK498; clear HB; have BK498 := n0_; have HB := n1_; clear n0_ n1_; (try clear hb); (try clear hb2); (try clear hk); (try clear hi)) | ((with_reducible refine gate_callee (f := 12) rfl ?_); refine goesL_ (some 28) rfl rfl Tryz.func12 (by kernel_rfl) rfl #[.slice A0 l0.length c0] rfl (zq3) ?_; (with_reducible refine (dialtoneref12_Made.calls k _ _ l0 t500 _ ?side1 ?side2 A7.out).mono ?_); (case side1 => exact zq25); (case side2 => exact zq26); rintro e w14 ⟨v501, rfl, ho0, hb⟩; refine ⟨_, rfl, ?_⟩; have n0_ := Aside0.mk (Kd.R_lower ho0 (below_size (zr8))); have n1_ := Aside0.mk (blk_below (g := gb498) (o := .cells #[.int .i64 a1_0, .int .i64 a1_1] 50 (0, 0)) (zr9) hb); have n2_ := Aside0.mk (below_step (zr8) hb); clear BK498; clear HB; have HO502 := n0_; have BK498 := n1_; have HB := n2_; clear n0_ n1_ n2_; (try clear hb); (try clear hb2); (try clear hk); (try clear hi); (try clear ho0)) | ((with_reducible refine gate_callee (f := 16) rfl ?_); refine goesL_ (some 30) rfl rfl Tryz.func16 (by kernel_rfl) rfl #[.int .i64 a3, .int .i64 3] rfl (zq3) ?_; (with_reducible refine (dialtonelaw12_pick.calls a3 3 t503 _ A8.out).mono ?_); rintro e w' ⟨rfl, ⟨nd, rfl⟩⟩; refine ⟨_, rfl, ?_⟩; have hcz15_0 : w14.cell? ⟨gb498, 0, none⟩ = some (.int .i64 a1_0) := (blk_cell BK498.out 0).trans rfl; have hcz15_1 : w14.cell? ⟨gb498, 1, none⟩ = some (.int .i64 a1_1) := (blk_cell BK498.out 1).trans rfl; have hfz15_0 := blk_frozen BK498.out 0; have hfz15_1 := blk_frozen BK498.out 1; obtain ⟨Ao16, co16, eo16⟩ := Kd.R_slice HO502.out; subst eo16) | ((with_reducible refine gate_callee (f := 13) rfl ?_); refine goesL_ (some 37) rfl rfl Tryz.func13 (by kernel_rfl) rfl #[.slice Ao16 t500.length co16, .int .i64 a1_0, .int .i64 a1_1] rfl (zq3) ?_; (with_reducible refine (dialtoneref12_Number.calls k _ _ t500 a1_0 a1_1 t504 _ ?side1 ?side2 A9.out).mono ?_); (case side1 => exact zr12); (case side2 => exact zr13); rintro e w17 ⟨rfl, hb⟩; refine ⟨_, rfl, ?_⟩; have n0_ := Aside0.mk (Kd.R_below (zr14) hb); have n1_ := Aside0.mk (blk_below (g := gb498) (o := .cells #[.int .i64 a1_0, .int .i64 a1_1] 50 (0, 0)) (zr9) hb); have n2_ := Aside0.mk (below_step (zr8) hb); clear HO502; clear BK498; clear HB; have HO502 := n0_; have BK498 := n1_; have HB := n2_; clear n0_ n1_ n2_; (try clear hb); (try clear hb2); (try clear hk); (try clear hi)) | ((with_reducible refine gate_callee (f := 17) rfl ?_); refine goesL_ (some 42) rfl rfl Tryz.func17 (by kernel_rfl) rfl #[.slice Ao16 t500.length co16, .int .i64 t504, .int .i64 (wrap64 (1 + t503))] rfl (zq3) ?_; (with_reducible refine (plan_Write.calls k _ _ t500 t504 (wrap64 (1 + t503)) t505 t506 _ ?side1 ?side2 ?side3 A10.out).mono ?_); (case side1 => exact zr12); (case side2 => exact zr13); (case side3 => exact zr7); rintro e w18 ⟨rfl, hb⟩; refine ⟨_, rfl, ?_⟩; have n0_ := Aside0.mk (Kd.R_below (zr14) hb); have n1_ := Aside0.mk (blk_below (g := gb498) (o := .cells #[.int .i64 a1_0, .int .i64 a1_1] 50 (0, 0)) (zr9) hb); have n2_ := Aside0.mk (below_step (zr8) hb); clear HO502; clear BK498; clear HB; have HO502 := n0_; have BK498 := n1_; have HB := n2_; clear n0_ n1_ n2_; (try clear hb); (try clear hb2); (try clear hk); (try clear hi)))
 (try simp only [Act.put, List.setIfInBounds_toArray, List.set_cons_zero, List.set_cons_succ])
 go_cut [] (fun wc => ∃ (kq : Nat), Aside0 (dialtonelaw12_PlanForms.j0 kq l2 t500 (wrap64 (1 + t503)) t505 = some r) ∧ Aside0 (kq ≤ k) ∧ Aside0 (Kd.R k29 29 wc w.heap.size (fun _ => True) (.slice Ao16 t500.length co16) t500) ∧ Aside0 (wc.heap[gb498]? = some (.cells #[.int .i64 a1_0, .int .i64 a1_1] 50 (0, 0))) ∧ Aside0 (Below w.heap.size w wc))
 case first =>
  have H := HC11.out
  clear HC11
  by_cases c19 : t506 = 0
  rotate_left
  ·rw [if_neg c19] at H
   have c19b0 : (t506 == 0) = false := beq_eq_false_iff_ne.mpr c19
   have c19b1 : (t506 != 0) = true := bne_iff_ne.mpr c19
   (first | rw [c19b0] | (simp only [i64_w, i32_w]; rw [c19b0]) | skip)
   have H' := Aside0.mk H
   clear H
   go_wp2
   go_meet
   case rel => exact ⟨_, H', ⟨by first | omega | exact Nat.le_refl _⟩, ⟨zr14⟩, ⟨zr9⟩, ⟨zr8⟩⟩
  rw [if_pos c19] at H
  have c19b0 : (t506 == 0) = true := beq_iff_eq.mpr c19
  have c19b1 : (t506 != 0) = false := bne_eq_false_iff_eq.mpr c19
  clear c19
  (first | rw [c19b0] | (simp only [i64_w, i32_w]; rw [c19b0]) | skip)
  replace H := Option.bind_eq_some_iff.mp H
  obtain ⟨⟨t507, t508, t509, t510, t511⟩, A200, H⟩ := H
  try dsimp only at H
  have A20 := Aside0.mk A200
  clear A200
  by_cases c21 : t511 = 0
  rotate_left
  ·rw [if_neg c21] at H
   have c21b0 : (t511 == 0) = false := beq_eq_false_iff_ne.mpr c21
   have c21b1 : (t511 != 0) = true := bne_iff_ne.mpr c21
   obtain rfl := Option.some.inj H
   go_wp2_with (first | ((with_reducible refine gate_callee (f := 21) rfl ?_); refine goesL_ (some 51) rfl rfl Tryz.func21 (by kernel_rfl) rfl #[.slice Ao16 t500.length co16, .string t505, .int .i64 (wrap64 (1 + t503))] rfl (zq3) ?_; (with_reducible refine (plan_Read.calls k _ _ t500 t505 (wrap64 (1 + t503)) t507 t508 t509 t510 t511 _ ?side1 ?side2 A20.out).mono ?_); (case side1 => exact zr12); (case side2 => exact zr13); rintro e w51 ⟨rfl, hb⟩; refine ⟨_, rfl, ?_⟩; have n0_ := Aside0.mk (Kd.R_below (zr14) hb); have n1_ := Aside0.mk (blk_below (g := gb498) (o := .cells #[.int .i64 a1_0, .int .i64 a1_1] 50 (0, 0)) (zr9) hb); have n2_ := Aside0.mk (below_step (zr8) hb); clear HO502; clear BK498; clear HB; have HO502 := n0_; have BK498 := n1_; have HB := n2_; clear n0_ n1_ n2_; (try clear hb); (try clear hb2); (try clear hk); (try clear hi)) | ((with_reducible refine gate_dst (N := 15) rfl ?_); (try (refine gate_guard (by rfl) ?_; dsimp only)); refine box_event ?hg (N := 15) ?hd (cs := #[.int .i64 0, .int .i64 0, .int .i64 0, .int .i64 0]) (t := 44) ?hr ?_; (case hd => rfl); (case hg => rfl); (case hr => exact zq0); intro gb512 hg w52 hbox hb; have n0_ := Aside0.mk (Kd.R_below (zr14) hb); have n1_ := Aside0.mk (blk_below (g := gb498) (o := .cells #[.int .i64 a1_0, .int .i64 a1_1] 50 (0, 0)) (zr9) hb); have n2_ := Aside0.mk (below_step (zr8) hb); have n3_ := Aside0.mk (hbox); have n4_ := Aside0.mk ((zr15 : w.heap.size ≤ gb512)); have n5_ := Aside0.mk ((zr15 : w.heap.size ≤ gb512)); have n6_ := Aside0.mk ((zr16 : gb498 ≠ gb512)); have n7_ := Aside0.mk ((zr17 : gb512 ≠ gb498)); clear HO502; clear BK498; clear HB; have HO502 := n0_; have BK498 := n1_; have HB := n2_; have BK512 := n3_; have GW512 := n4_; have GE512 := n5_; have NB498_512 := n6_; have NB512_498 := n7_; clear n0_ n1_ n2_ n3_ n4_ n5_ n6_ n7_; clear hb hbox hg; have hnb53 := NB512_498.out; have hnc53 := NB498_512.out; have hcz54_0 : w52.cell? ⟨gb512, 0, none⟩ = some (.int .i64 0) := (blk_cell BK512.out 0).trans rfl; have hcz54_1 : w52.cell? ⟨gb512, 1, none⟩ = some (.int .i64 0) := (blk_cell BK512.out 1).trans rfl; have hcz54_2 : w52.cell? ⟨gb512, 2, none⟩ = some (.int .i64 0) := (blk_cell BK512.out 2).trans rfl; have hcz54_3 : w52.cell? ⟨gb512, 3, none⟩ = some (.int .i64 0) := (blk_cell BK512.out 3).trans rfl; have hfz54_0 := blk_frozen BK512.out 0; have hfz54_1 := blk_frozen BK512.out 1; have hfz54_2 := blk_frozen BK512.out 2; have hfz54_3 := blk_frozen BK512.out 3))
   go_ret
   exact ⟨zr5, zr24⟩
  rw [if_pos c21] at H
  have c21b0 : (t511 == 0) = true := beq_iff_eq.mpr c21
  have c21b1 : (t511 != 0) = false := bne_eq_false_iff_eq.mpr c21
  clear c21
  by_cases c22 : t507 = 2
  rotate_left
  ·rw [if_neg c22] at H
   have c22b0 : (t507 == 2) = false := beq_eq_false_iff_ne.mpr c22
   have c22b1 : (t507 != 2) = true := bne_iff_ne.mpr c22
   obtain rfl := Option.some.inj H
   go_wp2_with (first | ((with_reducible refine gate_callee (f := 21) rfl ?_); refine goesL_ (some 51) rfl rfl Tryz.func21 (by kernel_rfl) rfl #[.slice Ao16 t500.length co16, .string t505, .int .i64 (wrap64 (1 + t503))] rfl (zq3) ?_; (with_reducible refine (plan_Read.calls k _ _ t500 t505 (wrap64 (1 + t503)) t507 t508 t509 t510 t511 _ ?side1 ?side2 A20.out).mono ?_); (case side1 => exact zr12); (case side2 => exact zr13); rintro e w47 ⟨rfl, hb⟩; refine ⟨_, rfl, ?_⟩; have n0_ := Aside0.mk (Kd.R_below (zr14) hb); have n1_ := Aside0.mk (blk_below (g := gb498) (o := .cells #[.int .i64 a1_0, .int .i64 a1_1] 50 (0, 0)) (zr9) hb); have n2_ := Aside0.mk (below_step (zr8) hb); clear HO502; clear BK498; clear HB; have HO502 := n0_; have BK498 := n1_; have HB := n2_; clear n0_ n1_ n2_; (try clear hb); (try clear hb2); (try clear hk); (try clear hi)) | ((with_reducible refine gate_dst (N := 15) rfl ?_); (try (refine gate_guard (by rfl) ?_; dsimp only)); refine box_event ?hg (N := 15) ?hd (cs := #[.int .i64 0, .int .i64 0, .int .i64 0, .int .i64 0]) (t := 44) ?hr ?_; (case hd => rfl); (case hg => rfl); (case hr => exact zq0); intro gb512 hg w48 hbox hb; have n0_ := Aside0.mk (Kd.R_below (zr14) hb); have n1_ := Aside0.mk (blk_below (g := gb498) (o := .cells #[.int .i64 a1_0, .int .i64 a1_1] 50 (0, 0)) (zr9) hb); have n2_ := Aside0.mk (below_step (zr8) hb); have n3_ := Aside0.mk (hbox); have n4_ := Aside0.mk ((zr15 : w.heap.size ≤ gb512)); have n5_ := Aside0.mk ((zr15 : w.heap.size ≤ gb512)); have n6_ := Aside0.mk ((zr16 : gb498 ≠ gb512)); have n7_ := Aside0.mk ((zr17 : gb512 ≠ gb498)); clear HO502; clear BK498; clear HB; have HO502 := n0_; have BK498 := n1_; have HB := n2_; have BK512 := n3_; have GW512 := n4_; have GE512 := n5_; have NB498_512 := n6_; have NB512_498 := n7_; clear n0_ n1_ n2_ n3_ n4_ n5_ n6_ n7_; clear hb hbox hg; have hnb49 := NB512_498.out; have hnc49 := NB498_512.out; have hcz50_0 : w48.cell? ⟨gb512, 0, none⟩ = some (.int .i64 0) := (blk_cell BK512.out 0).trans rfl; have hcz50_1 : w48.cell? ⟨gb512, 1, none⟩ = some (.int .i64 0) := (blk_cell BK512.out 1).trans rfl; have hcz50_2 : w48.cell? ⟨gb512, 2, none⟩ = some (.int .i64 0) := (blk_cell BK512.out 2).trans rfl; have hcz50_3 : w48.cell? ⟨gb512, 3, none⟩ = some (.int .i64 0) := (blk_cell BK512.out 3).trans rfl; have hfz50_0 := blk_frozen BK512.out 0; have hfz50_1 := blk_frozen BK512.out 1; have hfz50_2 := blk_frozen BK512.out 2; have hfz50_3 := blk_frozen BK512.out 3))
   go_ret
   exact ⟨zr5, zr24⟩
  rw [if_pos c22] at H
  have c22b0 : (t507 == 2) = true := beq_iff_eq.mpr c22
  have c22b1 : (t507 != 2) = false := bne_eq_false_iff_eq.mpr c22
  clear c22
  by_cases c23 : t508 = t504
  rotate_left
  ·rw [if_neg c23] at H
   have c23b0 : (t508 == t504) = false := beq_eq_false_iff_ne.mpr c23
   have c23b1 : (t508 != t504) = true := bne_iff_ne.mpr c23
   obtain rfl := Option.some.inj H
   go_wp2_with (first | ((with_reducible refine gate_callee (f := 21) rfl ?_); refine goesL_ (some 51) rfl rfl Tryz.func21 (by kernel_rfl) rfl #[.slice Ao16 t500.length co16, .string t505, .int .i64 (wrap64 (1 + t503))] rfl (zq3) ?_; (with_reducible refine (plan_Read.calls k _ _ t500 t505 (wrap64 (1 + t503)) t507 t508 t509 t510 t511 _ ?side1 ?side2 A20.out).mono ?_); (case side1 => exact zr12); (case side2 => exact zr13); rintro e w43 ⟨rfl, hb⟩; refine ⟨_, rfl, ?_⟩; have n0_ := Aside0.mk (Kd.R_below (zr14) hb); have n1_ := Aside0.mk (blk_below (g := gb498) (o := .cells #[.int .i64 a1_0, .int .i64 a1_1] 50 (0, 0)) (zr9) hb); have n2_ := Aside0.mk (below_step (zr8) hb); clear HO502; clear BK498; clear HB; have HO502 := n0_; have BK498 := n1_; have HB := n2_; clear n0_ n1_ n2_; (try clear hb); (try clear hb2); (try clear hk); (try clear hi)) | ((with_reducible refine gate_dst (N := 15) rfl ?_); (try (refine gate_guard (by rfl) ?_; dsimp only)); refine box_event ?hg (N := 15) ?hd (cs := #[.int .i64 0, .int .i64 0, .int .i64 0, .int .i64 0]) (t := 44) ?hr ?_; (case hd => rfl); (case hg => rfl); (case hr => exact zq0); intro gb512 hg w44 hbox hb; have n0_ := Aside0.mk (Kd.R_below (zr14) hb); have n1_ := Aside0.mk (blk_below (g := gb498) (o := .cells #[.int .i64 a1_0, .int .i64 a1_1] 50 (0, 0)) (zr9) hb); have n2_ := Aside0.mk (below_step (zr8) hb); have n3_ := Aside0.mk (hbox); have n4_ := Aside0.mk ((zr15 : w.heap.size ≤ gb512)); have n5_ := Aside0.mk ((zr15 : w.heap.size ≤ gb512)); have n6_ := Aside0.mk ((zr16 : gb498 ≠ gb512)); have n7_ := Aside0.mk ((zr17 : gb512 ≠ gb498)); clear HO502; clear BK498; clear HB; have HO502 := n0_; have BK498 := n1_; have HB := n2_; have BK512 := n3_; have GW512 := n4_; have GE512 := n5_; have NB498_512 := n6_; have NB512_498 := n7_; clear n0_ n1_ n2_ n3_ n4_ n5_ n6_ n7_; clear hb hbox hg; have hnb45 := NB512_498.out; have hnc45 := NB498_512.out; have hcz46_0 : w44.cell? ⟨gb512, 0, none⟩ = some (.int .i64 0) := (blk_cell BK512.out 0).trans rfl; have hcz46_1 : w44.cell? ⟨gb512, 1, none⟩ = some (.int .i64 0) := (blk_cell BK512.out 1).trans rfl; have hcz46_2 : w44.cell? ⟨gb512, 2, none⟩ = some (.int .i64 0) := (blk_cell BK512.out 2).trans rfl; have hcz46_3 : w44.cell? ⟨gb512, 3, none⟩ = some (.int .i64 0) := (blk_cell BK512.out 3).trans rfl; have hfz46_0 := blk_frozen BK512.out 0; have hfz46_1 := blk_frozen BK512.out 1; have hfz46_2 := blk_frozen BK512.out 2; have hfz46_3 := blk_frozen BK512.out 3))
   go_ret
   exact ⟨zr5, zr24⟩
  rw [if_pos c23] at H
  have c23b0 : (t508 == t504) = true := beq_iff_eq.mpr c23
  have c23b1 : (t508 != t504) = false := bne_eq_false_iff_eq.mpr c23
  clear c23
  by_cases c24 : t510 = (t505.size : Int)
  rotate_left
  ·rw [if_neg c24] at H
   have c24b0 : (t510 == (t505.size : Int)) = false := beq_eq_false_iff_ne.mpr c24
   have c24b1 : (t510 != (t505.size : Int)) = true := bne_iff_ne.mpr c24
   obtain rfl := Option.some.inj H
   go_wp2_with (first | ((with_reducible refine gate_callee (f := 21) rfl ?_); refine goesL_ (some 51) rfl rfl Tryz.func21 (by kernel_rfl) rfl #[.slice Ao16 t500.length co16, .string t505, .int .i64 (wrap64 (1 + t503))] rfl (zq3) ?_; (with_reducible refine (plan_Read.calls k _ _ t500 t505 (wrap64 (1 + t503)) t507 t508 t509 t510 t511 _ ?side1 ?side2 A20.out).mono ?_); (case side1 => exact zr12); (case side2 => exact zr13); rintro e w39 ⟨rfl, hb⟩; refine ⟨_, rfl, ?_⟩; have n0_ := Aside0.mk (Kd.R_below (zr14) hb); have n1_ := Aside0.mk (blk_below (g := gb498) (o := .cells #[.int .i64 a1_0, .int .i64 a1_1] 50 (0, 0)) (zr9) hb); have n2_ := Aside0.mk (below_step (zr8) hb); clear HO502; clear BK498; clear HB; have HO502 := n0_; have BK498 := n1_; have HB := n2_; clear n0_ n1_ n2_; (try clear hb); (try clear hb2); (try clear hk); (try clear hi)) | ((with_reducible refine gate_dst (N := 15) rfl ?_); (try (refine gate_guard (by rfl) ?_; dsimp only)); refine box_event ?hg (N := 15) ?hd (cs := #[.int .i64 0, .int .i64 0, .int .i64 0, .int .i64 0]) (t := 44) ?hr ?_; (case hd => rfl); (case hg => rfl); (case hr => exact zq0); intro gb512 hg w40 hbox hb; have n0_ := Aside0.mk (Kd.R_below (zr14) hb); have n1_ := Aside0.mk (blk_below (g := gb498) (o := .cells #[.int .i64 a1_0, .int .i64 a1_1] 50 (0, 0)) (zr9) hb); have n2_ := Aside0.mk (below_step (zr8) hb); have n3_ := Aside0.mk (hbox); have n4_ := Aside0.mk ((zr15 : w.heap.size ≤ gb512)); have n5_ := Aside0.mk ((zr15 : w.heap.size ≤ gb512)); have n6_ := Aside0.mk ((zr16 : gb498 ≠ gb512)); have n7_ := Aside0.mk ((zr17 : gb512 ≠ gb498)); clear HO502; clear BK498; clear HB; have HO502 := n0_; have BK498 := n1_; have HB := n2_; have BK512 := n3_; have GW512 := n4_; have GE512 := n5_; have NB498_512 := n6_; have NB512_498 := n7_; clear n0_ n1_ n2_ n3_ n4_ n5_ n6_ n7_; clear hb hbox hg; have hnb41 := NB512_498.out; have hnc41 := NB498_512.out; have hcz42_0 : w40.cell? ⟨gb512, 0, none⟩ = some (.int .i64 0) := (blk_cell BK512.out 0).trans rfl; have hcz42_1 : w40.cell? ⟨gb512, 1, none⟩ = some (.int .i64 0) := (blk_cell BK512.out 1).trans rfl; have hcz42_2 : w40.cell? ⟨gb512, 2, none⟩ = some (.int .i64 0) := (blk_cell BK512.out 2).trans rfl; have hcz42_3 : w40.cell? ⟨gb512, 3, none⟩ = some (.int .i64 0) := (blk_cell BK512.out 3).trans rfl; have hfz42_0 := blk_frozen BK512.out 0; have hfz42_1 := blk_frozen BK512.out 1; have hfz42_2 := blk_frozen BK512.out 2; have hfz42_3 := blk_frozen BK512.out 3))
   go_ret
   exact ⟨zr5, zr24⟩
  rw [if_pos c24] at H
  have c24b0 : (t510 == (t505.size : Int)) = true := beq_iff_eq.mpr c24
  have c24b1 : (t510 != (t505.size : Int)) = false := bne_eq_false_iff_eq.mpr c24
  clear c24
  by_cases c25 : t509 < 0
  ·rw [if_pos c25] at H
   have c25b0 : decide (t509 < 0) = true := decide_eq_true c25
   clear c25
   obtain rfl := Option.some.inj H
   go_wp2_with (first | ((with_reducible refine gate_callee (f := 21) rfl ?_); refine goesL_ (some 51) rfl rfl Tryz.func21 (by kernel_rfl) rfl #[.slice Ao16 t500.length co16, .string t505, .int .i64 (wrap64 (1 + t503))] rfl (zq3) ?_; (with_reducible refine (plan_Read.calls k _ _ t500 t505 (wrap64 (1 + t503)) t507 t508 t509 t510 t511 _ ?side1 ?side2 A20.out).mono ?_); (case side1 => exact zr12); (case side2 => exact zr13); rintro e w26 ⟨rfl, hb⟩; refine ⟨_, rfl, ?_⟩; have n0_ := Aside0.mk (Kd.R_below (zr14) hb); have n1_ := Aside0.mk (blk_below (g := gb498) (o := .cells #[.int .i64 a1_0, .int .i64 a1_1] 50 (0, 0)) (zr9) hb); have n2_ := Aside0.mk (below_step (zr8) hb); clear HO502; clear BK498; clear HB; have HO502 := n0_; have BK498 := n1_; have HB := n2_; clear n0_ n1_ n2_; (try clear hb); (try clear hb2); (try clear hk); (try clear hi)) | ((with_reducible refine gate_dst (N := 15) rfl ?_); (try (refine gate_guard (by rfl) ?_; dsimp only)); refine box_event ?hg (N := 15) ?hd (cs := #[.int .i64 0, .int .i64 0, .int .i64 0, .int .i64 0]) (t := 44) ?hr ?_; (case hd => rfl); (case hg => rfl); (case hr => exact zq0); intro gb512 hg w27 hbox hb; have n0_ := Aside0.mk (Kd.R_below (zr14) hb); have n1_ := Aside0.mk (blk_below (g := gb498) (o := .cells #[.int .i64 a1_0, .int .i64 a1_1] 50 (0, 0)) (zr9) hb); have n2_ := Aside0.mk (below_step (zr8) hb); have n3_ := Aside0.mk (hbox); have n4_ := Aside0.mk ((zr15 : w.heap.size ≤ gb512)); have n5_ := Aside0.mk ((zr15 : w.heap.size ≤ gb512)); have n6_ := Aside0.mk ((zr16 : gb498 ≠ gb512)); have n7_ := Aside0.mk ((zr17 : gb512 ≠ gb498)); clear HO502; clear BK498; clear HB; have HO502 := n0_; have BK498 := n1_; have HB := n2_; have BK512 := n3_; have GW512 := n4_; have GE512 := n5_; have NB498_512 := n6_; have NB512_498 := n7_; clear n0_ n1_ n2_ n3_ n4_ n5_ n6_ n7_; clear hb hbox hg; have hnb28 := NB512_498.out; have hnc28 := NB498_512.out; have hcz29_0 : w27.cell? ⟨gb512, 0, none⟩ = some (.int .i64 0) := (blk_cell BK512.out 0).trans rfl; have hcz29_1 : w27.cell? ⟨gb512, 1, none⟩ = some (.int .i64 0) := (blk_cell BK512.out 1).trans rfl; have hcz29_2 : w27.cell? ⟨gb512, 2, none⟩ = some (.int .i64 0) := (blk_cell BK512.out 2).trans rfl; have hcz29_3 : w27.cell? ⟨gb512, 3, none⟩ = some (.int .i64 0) := (blk_cell BK512.out 3).trans rfl; have hfz29_0 := blk_frozen BK512.out 0; have hfz29_1 := blk_frozen BK512.out 1; have hfz29_2 := blk_frozen BK512.out 2; have hfz29_3 := blk_frozen BK512.out 3))
   go_ret
   exact ⟨zr5, zr24⟩
  rw [if_neg c25] at H
  have c25b0 : decide (t509 < 0) = false := decide_eq_false c25
  clear c25
  by_cases c30 : t509 ≥ (t500.length : Int)
  ·rw [if_pos c30] at H
   have c30b0 : decide ((t500.length : Int) ≤ t509) = true := decide_eq_true c30
   clear c30
   obtain rfl := Option.some.inj H
   go_wp2_with (first | ((with_reducible refine gate_callee (f := 21) rfl ?_); refine goesL_ (some 51) rfl rfl Tryz.func21 (by kernel_rfl) rfl #[.slice Ao16 t500.length co16, .string t505, .int .i64 (wrap64 (1 + t503))] rfl (zq3) ?_; (with_reducible refine (plan_Read.calls k _ _ t500 t505 (wrap64 (1 + t503)) t507 t508 t509 t510 t511 _ ?side1 ?side2 A20.out).mono ?_); (case side1 => exact zr12); (case side2 => exact zr13); rintro e w31 ⟨rfl, hb⟩; refine ⟨_, rfl, ?_⟩; have n0_ := Aside0.mk (Kd.R_below (zr14) hb); have n1_ := Aside0.mk (blk_below (g := gb498) (o := .cells #[.int .i64 a1_0, .int .i64 a1_1] 50 (0, 0)) (zr9) hb); have n2_ := Aside0.mk (below_step (zr8) hb); clear HO502; clear BK498; clear HB; have HO502 := n0_; have BK498 := n1_; have HB := n2_; clear n0_ n1_ n2_; (try clear hb); (try clear hb2); (try clear hk); (try clear hi)) | ((with_reducible refine gate_dst (N := 15) rfl ?_); (try (refine gate_guard (by rfl) ?_; dsimp only)); refine box_event ?hg (N := 15) ?hd (cs := #[.int .i64 0, .int .i64 0, .int .i64 0, .int .i64 0]) (t := 44) ?hr ?_; (case hd => rfl); (case hg => rfl); (case hr => exact zq0); intro gb512 hg w32 hbox hb; have n0_ := Aside0.mk (Kd.R_below (zr14) hb); have n1_ := Aside0.mk (blk_below (g := gb498) (o := .cells #[.int .i64 a1_0, .int .i64 a1_1] 50 (0, 0)) (zr9) hb); have n2_ := Aside0.mk (below_step (zr8) hb); have n3_ := Aside0.mk (hbox); have n4_ := Aside0.mk ((zr15 : w.heap.size ≤ gb512)); have n5_ := Aside0.mk ((zr15 : w.heap.size ≤ gb512)); have n6_ := Aside0.mk ((zr16 : gb498 ≠ gb512)); have n7_ := Aside0.mk ((zr17 : gb512 ≠ gb498)); clear HO502; clear BK498; clear HB; have HO502 := n0_; have BK498 := n1_; have HB := n2_; have BK512 := n3_; have GW512 := n4_; have GE512 := n5_; have NB498_512 := n6_; have NB512_498 := n7_; clear n0_ n1_ n2_ n3_ n4_ n5_ n6_ n7_; clear hb hbox hg; have hnb33 := NB512_498.out; have hnc33 := NB498_512.out; have hcz34_0 : w32.cell? ⟨gb512, 0, none⟩ = some (.int .i64 0) := (blk_cell BK512.out 0).trans rfl; have hcz34_1 : w32.cell? ⟨gb512, 1, none⟩ = some (.int .i64 0) := (blk_cell BK512.out 1).trans rfl; have hcz34_2 : w32.cell? ⟨gb512, 2, none⟩ = some (.int .i64 0) := (blk_cell BK512.out 2).trans rfl; have hcz34_3 : w32.cell? ⟨gb512, 3, none⟩ = some (.int .i64 0) := (blk_cell BK512.out 3).trans rfl; have hfz34_0 := blk_frozen BK512.out 0; have hfz34_1 := blk_frozen BK512.out 1; have hfz34_2 := blk_frozen BK512.out 2; have hfz34_3 := blk_frozen BK512.out 3))
   go_ret
   exact ⟨zr5, zr24⟩
  rw [if_neg c30] at H
  have c30b0 : decide ((t500.length : Int) ≤ t509) = false := decide_eq_false c30
  clear c30
  have H' := Aside0.mk H
  clear H
  go_wp2_with (first | ((with_reducible refine gate_callee (f := 21) rfl ?_); refine goesL_ (some 51) rfl rfl Tryz.func21 (by kernel_rfl) rfl #[.slice Ao16 t500.length co16, .string t505, .int .i64 (wrap64 (1 + t503))] rfl (zq3) ?_; (with_reducible refine (plan_Read.calls k _ _ t500 t505 (wrap64 (1 + t503)) t507 t508 t509 t510 t511 _ ?side1 ?side2 A20.out).mono ?_); (case side1 => exact zr12); (case side2 => exact zr13); rintro e w35 ⟨rfl, hb⟩; refine ⟨_, rfl, ?_⟩; have n0_ := Aside0.mk (Kd.R_below (zr14) hb); have n1_ := Aside0.mk (blk_below (g := gb498) (o := .cells #[.int .i64 a1_0, .int .i64 a1_1] 50 (0, 0)) (zr9) hb); have n2_ := Aside0.mk (below_step (zr8) hb); clear HO502; clear BK498; clear HB; have HO502 := n0_; have BK498 := n1_; have HB := n2_; clear n0_ n1_ n2_; (try clear hb); (try clear hb2); (try clear hk); (try clear hi)) | ((with_reducible refine gate_dst (N := 15) rfl ?_); (try (refine gate_guard (by rfl) ?_; dsimp only)); refine box_event ?hg (N := 15) ?hd (cs := #[.int .i64 0, .int .i64 0, .int .i64 0, .int .i64 0]) (t := 44) ?hr ?_; (case hd => rfl); (case hg => rfl); (case hr => exact zq0); intro gb512 hg w36 hbox hb; have n0_ := Aside0.mk (Kd.R_below (zr14) hb); have n1_ := Aside0.mk (blk_below (g := gb498) (o := .cells #[.int .i64 a1_0, .int .i64 a1_1] 50 (0, 0)) (zr9) hb); have n2_ := Aside0.mk (below_step (zr8) hb); have n3_ := Aside0.mk (hbox); have n4_ := Aside0.mk ((zr15 : w.heap.size ≤ gb512)); have n5_ := Aside0.mk ((zr15 : w.heap.size ≤ gb512)); have n6_ := Aside0.mk ((zr16 : gb498 ≠ gb512)); have n7_ := Aside0.mk ((zr17 : gb512 ≠ gb498)); clear HO502; clear BK498; clear HB; have HO502 := n0_; have BK498 := n1_; have HB := n2_; have BK512 := n3_; have GW512 := n4_; have GE512 := n5_; have NB498_512 := n6_; have NB512_498 := n7_; clear n0_ n1_ n2_ n3_ n4_ n5_ n6_ n7_; clear hb hbox hg; have hnb37 := NB512_498.out; have hnc37 := NB498_512.out; have hcz38_0 : w36.cell? ⟨gb512, 0, none⟩ = some (.int .i64 0) := (blk_cell BK512.out 0).trans rfl; have hcz38_1 : w36.cell? ⟨gb512, 1, none⟩ = some (.int .i64 0) := (blk_cell BK512.out 1).trans rfl; have hcz38_2 : w36.cell? ⟨gb512, 2, none⟩ = some (.int .i64 0) := (blk_cell BK512.out 2).trans rfl; have hcz38_3 : w36.cell? ⟨gb512, 3, none⟩ = some (.int .i64 0) := (blk_cell BK512.out 3).trans rfl; have hfz38_0 := blk_frozen BK512.out 0; have hfz38_1 := blk_frozen BK512.out 1; have hfz38_2 := blk_frozen BK512.out 2; have hfz38_3 := blk_frozen BK512.out 3))
  go_meet
  case rel => exact ⟨_, H', ⟨by first | omega | exact Nat.le_refl _⟩, ⟨by (with_reducible repeat (first | apply Kd.R_alloc | apply Kd.R_drewN | apply Kd.R_drew)); exact Kd.R_mono (Kd.R_far (p := ⟨gb512, 3, none⟩) (Kd.R_far (p := ⟨gb512, 2, none⟩) (Kd.R_far (p := ⟨gb512, 1, none⟩) (Kd.R_far (p := ⟨gb512, 0, none⟩) (Kd.R_types HO502.out BK512.out (by decide)) (fun _ hk => hk.2) (.int .i64 t507)) (fun _ hk => hk.2) (.int .i64 t508)) (fun _ hk => hk.2) (.int .i64 t509)) (fun _ hk => hk.2) (.int .i64 t510)) (fun _ hk => trivial)⟩, ⟨by (with_reducible repeat (first | refine blk_drewN ?_ _ | refine blk_drew ?_ | refine blk_alloc ?_ _)); refine blk_far ?_ NB498_512.out _; (with_reducible repeat (first | refine blk_drewN ?_ _ | refine blk_drew ?_ | refine blk_alloc ?_ _)); refine blk_far ?_ NB498_512.out _; (with_reducible repeat (first | refine blk_drewN ?_ _ | refine blk_drew ?_ | refine blk_alloc ?_ _)); refine blk_far ?_ NB498_512.out _; (with_reducible repeat (first | refine blk_drewN ?_ _ | refine blk_drew ?_ | refine blk_alloc ?_ _)); refine blk_far ?_ NB498_512.out _; (with_reducible repeat (first | refine blk_drewN ?_ _ | refine blk_drew ?_ | refine blk_alloc ?_ _)); exact BK498.out⟩, ⟨zr24⟩⟩
 case rest =>
  clear HC11
  try clear c1
  try clear c2
  try clear p2
  try clear c3
  try clear c4
  try clear c5
  try clear c6
  try clear p6
  try clear c7
  try clear c11
  try clear c12
  try clear c13
  try clear c16
  try clear c17
  try clear c19
  try clear c19b0
  try clear c19b1
  try clear c21
  try clear c21b0
  try clear c21b1
  try clear c22
  try clear c22b0
  try clear c22b1
  try clear c23
  try clear c23b0
  try clear c23b1
  try clear c24
  try clear c24b0
  try clear c24b1
  try clear c25
  try clear c25b0
  try clear c28
  try clear c30
  try clear c30b0
  try clear c33
  try clear c37
  try clear c41
  try clear c45
  try clear c49
  try clear c53
  try clear hcz15_0
  try clear hcz15_1
  try clear hcz29_0
  try clear hcz29_1
  try clear hcz29_2
  try clear hcz29_3
  try clear hcz34_0
  try clear hcz34_1
  try clear hcz34_2
  try clear hcz34_3
  try clear hcz38_0
  try clear hcz38_1
  try clear hcz38_2
  try clear hcz38_3
  try clear hcz42_0
  try clear hcz42_1
  try clear hcz42_2
  try clear hcz42_3
  try clear hcz46_0
  try clear hcz46_1
  try clear hcz46_2
  try clear hcz46_3
  try clear hcz50_0
  try clear hcz50_1
  try clear hcz50_2
  try clear hcz50_3
  try clear hcz54_0
  try clear hcz54_1
  try clear hcz54_2
  try clear hcz54_3
  try clear hfz15_0
  try clear hfz15_1
  try clear hfz29_0
  try clear hfz29_1
  try clear hfz29_2
  try clear hfz29_3
  try clear hfz34_0
  try clear hfz34_1
  try clear hfz34_2
  try clear hfz34_3
  try clear hfz38_0
  try clear hfz38_1
  try clear hfz38_2
  try clear hfz38_3
  try clear hfz42_0
  try clear hfz42_1
  try clear hfz42_2
  try clear hfz42_3
  try clear hfz46_0
  try clear hfz46_1
  try clear hfz46_2
  try clear hfz46_3
  try clear hfz50_0
  try clear hfz50_1
  try clear hfz50_2
  try clear hfz50_3
  try clear hfz54_0
  try clear hfz54_1
  try clear hfz54_2
  try clear hfz54_3
  obtain ⟨kq, HA, HJ10, HO_10, BK498, HB⟩ := hcut
  cases kq with
  | zero => exact absurd HA.out (by simp [dialtonelaw12_PlanForms.j0])
  | succ kj10 =>
   have H := HA.out
   clear HA
   simp only [dialtonelaw12_PlanForms.j0] at H
   obtain ⟨ji55, hji55⟩ : ∃ j_ : Int, (mn (l2.length : Int) 8) = j_ := ⟨_, rfl⟩
   replace H : (if 0 ≤ (ji55) then (if (ji55) ≤ (l2.length : Int) then ((dialtonelaw12_text.f kj10 (l2.take ((ji55) : Int).toNat)).bind fun t514 => (if t505.size + t514.size ≤ 9223372036854775807 then ((plan_Read.f kj10 t500 (t505 ++ t514) (wrap64 (1 + t503))).bind fun bt515 => (if bt515.2.2.2.2 = 0 then (dialtonelaw12_PlanForms.j1 kj10 t500 (wrap64 (1 + t503)) (t505 ++ t514) bt515.2.2.2.2 (bt515.1 != 2) bt515.1 bt515.2.1 bt515.2.2.1 bt515.2.2.2.1) else (dialtonelaw12_PlanForms.j1 kj10 t500 (wrap64 (1 + t503)) (t505 ++ t514) bt515.2.2.2.2 true bt515.1 bt515.2.1 bt515.2.2.1 bt515.2.2.2.1))) else (none))) else (none)) else (none)) = some r := by first | (rw [hji55] at H; exact H) | (simp only [hji55] at H ⊢; exact H)
   have hji55_ : (if 8 < (l2.length : Int) then 8 else (l2.length : Int)) = ji55 := hji55
   by_cases c56 : 0 ≤ (ji55)
   rotate_left
   ·rw [if_neg c56] at H
    exact absurd H (by simp)
   rw [if_pos c56] at H
   have c56b0 := eq_true c56
   have c56b1 : decide (0 ≤ (ji55)) = true := decide_eq_true c56
   clear c56
   by_cases c57 : (ji55) ≤ (l2.length : Int)
   rotate_left
   ·rw [if_neg c57] at H
    exact absurd H (by simp)
   rw [if_pos c57] at H
   have c57b0 := eq_true c57
   have c57b1 : decide ((ji55) ≤ (l2.length : Int)) = true := decide_eq_true c57
   clear c57
   replace H := Option.bind_eq_some_iff.mp H
   obtain ⟨t514, A580, H⟩ := H
   try dsimp only at H
   have A58 := Aside0.mk A580
   clear A580
   by_cases c59 : t505.size + t514.size ≤ 9223372036854775807
   rotate_left
   ·rw [if_neg c59] at H
    exact absurd H (by simp)
   rw [if_pos c59] at H
   have c59b0 := eq_true c59
   have c59b1 : decide (t505.size + t514.size ≤ 9223372036854775807) = true := decide_eq_true c59
   try have c59b2 : (9223372036854775807 < t505.size + t514.size) = False := eq_false (Nat.not_lt.2 c59)
   replace H := Option.bind_eq_some_iff.mp H
   obtain ⟨⟨t515, t516, t517, t518, t519⟩, A600, H⟩ := H
   try dsimp only at H
   have A60 := Aside0.mk A600
   clear A600
   have HC61 := Aside0.mk H
   clear H
   obtain ⟨i062, hi062, _, hsz62, _⟩ := info_parts info3
   obtain ⟨hcut62, hA62, hC62⟩ := print_take_of (P := Tryz.prog) (Value.int .i64) 0 25 3 .i64 Tryz.underlying25 hi062 hsz62 A2 c2 l2 (ji55) (of_decide_eq_true (zq14)) (of_decide_eq_true (zq14)) HC2.out
   have HR513 := Aside0.mk (Kd.C_of_reads (h1 := fun _ => rfl) (hA62 _ (Kd.reads_of_C HR2.out)))
   have HC513 := Aside0.mk hC62
   clear hA62 hC62 hi062 hsz62
   go_upto_region 14 with (first | ((with_reducible refine gate_callee (f := 15) rfl ?_); refine goesL_ (some 92) rfl rfl Tryz.func15 (by kernel_rfl) rfl #[.slice A2 (l2.take ((ji55) : Int).toNat).length c2] rfl (by (try simp only [List.map_toArray, List.map_cons, List.map_nil]); first | done | (rw [show (l2.take ((ji55) : Int).toNat).length = (ji55).toNat from (by rw [List.length_take]; have h_ : ((ji55) : Int) ≤ (l2.length : Int) := of_decide_eq_true (zq14); omega)] <;> rfl) | (simp only [hji55]; rfl) | rfl | (simp only [List.length_drop, List.length_take]; rfl) | (simp (disch := omega) only [wrap64_of]; done) | (simp (disch := omega) only [wrap64_of]; rfl)) ?_; (with_reducible refine (dialtonelaw12_text.calls kj10 _ _ (l2.take ((ji55) : Int).toNat) t514 _ ?side1 ?side2 A58.out).mono ?_); (case side1 => repeat (first | exact (Kd.C_below HR513.out HB.out) | (with_reducible refine Kd.C_alloc ?_ _) | (with_reducible refine Kd.C_drewN ?_ _) | (with_reducible refine Kd.C_drew ?_))); (case side2 => exact HC513.out); rintro e w63 ⟨rfl, hb⟩; refine ⟨_, rfl, ?_⟩; have n0_ := Aside0.mk (Kd.R_below (zr18) hb); have n1_ := Aside0.mk (blk_below (g := gb498) (o := .cells #[.int .i64 a1_0, .int .i64 a1_1] 50 (0, 0)) (zr9) hb); have n2_ := Aside0.mk (below_step (zr8) hb); clear HO_10; clear BK498; clear HB; have HO_10 := n0_; have BK498 := n1_; have HB := n2_; clear n0_ n1_ n2_; (try clear hb); (try clear hb2); (try clear hk); (try clear hi)) | ((with_reducible refine gate_callee (f := 21) rfl ?_); refine goesL_ (some 98) rfl rfl Tryz.func21 (by kernel_rfl) rfl #[.slice Ao16 t500.length co16, .string (t505 ++ t514), .int .i64 (wrap64 (1 + t503))] rfl (zq3) ?_; (with_reducible refine (plan_Read.calls kj10 _ _ t500 (t505 ++ t514) (wrap64 (1 + t503)) t515 t516 t517 t518 t519 _ ?side1 ?side2 A60.out).mono ?_); (case side1 => exact zr19); (case side2 => exact zr20); rintro e w64 ⟨rfl, hb⟩; refine ⟨_, rfl, ?_⟩; have n0_ := Aside0.mk (Kd.R_below (zr18) hb); have n1_ := Aside0.mk (blk_below (g := gb498) (o := .cells #[.int .i64 a1_0, .int .i64 a1_1] 50 (0, 0)) (zr9) hb); have n2_ := Aside0.mk (below_step (zr8) hb); clear HO_10; clear BK498; clear HB; have HO_10 := n0_; have BK498 := n1_; have HB := n2_; clear n0_ n1_ n2_; (try clear hb); (try clear hb2); (try clear hk); (try clear hi)) | ((with_reducible refine gate_dst (N := 18) rfl ?_); (try (refine gate_guard (by rfl) ?_; dsimp only)); refine box_event ?hg (N := 18) ?hd (cs := #[.int .i64 0, .int .i64 0, .int .i64 0, .int .i64 0]) (t := 44) ?hr ?_; (case hd => rfl); (case hg => rfl); (case hr => exact zq0); intro gb520 hg w65 hbox hb; have n0_ := Aside0.mk (Kd.R_below (zr18) hb); have n1_ := Aside0.mk (blk_below (g := gb498) (o := .cells #[.int .i64 a1_0, .int .i64 a1_1] 50 (0, 0)) (zr9) hb); have n2_ := Aside0.mk (below_step (zr8) hb); have n3_ := Aside0.mk (hbox); have n4_ := Aside0.mk ((zr15 : w.heap.size ≤ gb520)); have n5_ := Aside0.mk ((zr15 : w.heap.size ≤ gb520)); have n6_ := Aside0.mk ((zr16 : gb498 ≠ gb520)); have n7_ := Aside0.mk ((zr17 : gb520 ≠ gb498)); clear HO_10; clear BK498; clear HB; have HO_10 := n0_; have BK498 := n1_; have HB := n2_; have BK520 := n3_; have GW520 := n4_; have GE520 := n5_; have NB498_520 := n6_; have NB520_498 := n7_; clear n0_ n1_ n2_ n3_ n4_ n5_ n6_ n7_; clear hb hbox hg; have hnb66 := NB520_498.out; have hnc66 := NB498_520.out; have hcz67_0 : w65.cell? ⟨gb520, 0, none⟩ = some (.int .i64 0) := (blk_cell BK520.out 0).trans rfl; have hcz67_1 : w65.cell? ⟨gb520, 1, none⟩ = some (.int .i64 0) := (blk_cell BK520.out 1).trans rfl; have hcz67_2 : w65.cell? ⟨gb520, 2, none⟩ = some (.int .i64 0) := (blk_cell BK520.out 2).trans rfl; have hcz67_3 : w65.cell? ⟨gb520, 3, none⟩ = some (.int .i64 0) := (blk_cell BK520.out 3).trans rfl; have hfz67_0 := blk_frozen BK520.out 0; have hfz67_1 := blk_frozen BK520.out 1; have hfz67_2 := blk_frozen BK520.out 2; have hfz67_3 := blk_frozen BK520.out 3))
   (try simp only [Act.put, List.setIfInBounds_toArray, List.set_cons_zero, List.set_cons_succ])
   go_cut [107] (fun v107 wc => ∃ (kq : Nat) (x107_60 : Bool), v107 = .bool x107_60 ∧ Aside0 (dialtonelaw12_PlanForms.j1 kq t500 (wrap64 (1 + t503)) (t505 ++ t514) t519 x107_60 t515 t516 t517 t518 = some r) ∧ Aside0 (kq ≤ kj10) ∧ Aside0 (Kd.R k29 29 wc w.heap.size (fun _ => True) (.slice Ao16 t500.length co16) t500) ∧ Aside0 (wc.heap[gb498]? = some (.cells #[.int .i64 a1_0, .int .i64 a1_1] 50 (0, 0))) ∧ Aside0 (wc.heap[gb520]? = some (.cells #[.int .i64 t515, .int .i64 t516, .int .i64 t517, .int .i64 t518] 44 (0, 0))) ∧ Aside0 (Below w.heap.size w wc))
   case first =>
    have H := HC61.out
    clear HC61
    by_cases c68 : t519 = 0
    rotate_left
    ·rw [if_neg c68] at H
     have c68b0 : (t519 == 0) = false := beq_eq_false_iff_ne.mpr c68
     have c68b1 : (t519 != 0) = true := bne_iff_ne.mpr c68
     (first | rw [c68b0] | (simp only [i64_w, i32_w]; rw [c68b0]) | skip)
     have H' := Aside0.mk H
     clear H
     go_wp2
     go_meet
     case rel => exact ⟨_, (true), (zq6), H', ⟨by have := HJ10.out; first | omega | exact Nat.le_refl _⟩, ⟨zr25⟩, ⟨zr26⟩, ⟨zr27⟩, ⟨zr22⟩⟩
    rw [if_pos c68] at H
    have c68b0 : (t519 == 0) = true := beq_iff_eq.mpr c68
    have c68b1 : (t519 != 0) = false := bne_eq_false_iff_eq.mpr c68
    clear c68
    (first | rw [c68b0] | (simp only [i64_w, i32_w]; rw [c68b0]) | skip)
    have H' := Aside0.mk H
    clear H
    have hnb69 := NB520_498.out
    have hnc69 := NB498_520.out
    have hcz70_0 : w65.cell? ⟨gb520, 0, none⟩ = some (.int .i64 0) := (blk_cell BK520.out 0).trans rfl
    have hcz70_1 : w65.cell? ⟨gb520, 1, none⟩ = some (.int .i64 0) := (blk_cell BK520.out 1).trans rfl
    have hcz70_2 : w65.cell? ⟨gb520, 2, none⟩ = some (.int .i64 0) := (blk_cell BK520.out 2).trans rfl
    have hcz70_3 : w65.cell? ⟨gb520, 3, none⟩ = some (.int .i64 0) := (blk_cell BK520.out 3).trans rfl
    have hfz70_0 := blk_frozen BK520.out 0
    have hfz70_1 := blk_frozen BK520.out 1
    have hfz70_2 := blk_frozen BK520.out 2
    have hfz70_3 := blk_frozen BK520.out 3
    go_wp2
    go_meet
    case rel => exact ⟨_, ((t515 != 2)), (zq6), H', ⟨by have := HJ10.out; first | omega | exact Nat.le_refl _⟩, ⟨zr25⟩, ⟨zr26⟩, ⟨zr27⟩, ⟨zr22⟩⟩
   case rest =>
    clear HC61
    try clear c1
    try clear c2
    try clear p2
    try clear c3
    try clear c4
    try clear c5
    try clear c6
    try clear p6
    try clear c7
    try clear c11
    try clear c12
    try clear c13
    try clear c15
    try clear c16
    try clear c17
    try clear c19
    try clear c19b0
    try clear c19b1
    try clear c21
    try clear c21b0
    try clear c21b1
    try clear c22
    try clear c22b0
    try clear c22b1
    try clear c23
    try clear c23b0
    try clear c23b1
    try clear c24
    try clear c24b0
    try clear c24b1
    try clear c25
    try clear c25b0
    try clear c28
    try clear c30
    try clear c30b0
    try clear c33
    try clear c37
    try clear c41
    try clear c45
    try clear c49
    try clear c53
    try clear c56
    try clear c56b0
    try clear c56b1
    try clear c57
    try clear c57b0
    try clear c57b1
    try clear c59
    try clear c59b0
    try clear c59b1
    try clear c59b2
    try clear p64
    try clear c66
    try clear c68
    try clear c68b0
    try clear c68b1
    try clear c69
    try clear hcz15_0
    try clear hcz15_1
    try clear hcz29_0
    try clear hcz29_1
    try clear hcz29_2
    try clear hcz29_3
    try clear hcz34_0
    try clear hcz34_1
    try clear hcz34_2
    try clear hcz34_3
    try clear hcz38_0
    try clear hcz38_1
    try clear hcz38_2
    try clear hcz38_3
    try clear hcz42_0
    try clear hcz42_1
    try clear hcz42_2
    try clear hcz42_3
    try clear hcz46_0
    try clear hcz46_1
    try clear hcz46_2
    try clear hcz46_3
    try clear hcz50_0
    try clear hcz50_1
    try clear hcz50_2
    try clear hcz50_3
    try clear hcz54_0
    try clear hcz54_1
    try clear hcz54_2
    try clear hcz54_3
    try clear hcz67_0
    try clear hcz67_1
    try clear hcz67_2
    try clear hcz67_3
    try clear hcz70_0
    try clear hcz70_1
    try clear hcz70_2
    try clear hcz70_3
    try clear hfz15_0
    try clear hfz15_1
    try clear hfz29_0
    try clear hfz29_1
    try clear hfz29_2
    try clear hfz29_3
    try clear hfz34_0
    try clear hfz34_1
    try clear hfz34_2
    try clear hfz34_3
    try clear hfz38_0
    try clear hfz38_1
    try clear hfz38_2
    try clear hfz38_3
    try clear hfz42_0
    try clear hfz42_1
    try clear hfz42_2
    try clear hfz42_3
    try clear hfz46_0
    try clear hfz46_1
    try clear hfz46_2
    try clear hfz46_3
    try clear hfz50_0
    try clear hfz50_1
    try clear hfz50_2
    try clear hfz50_3
    try clear hfz54_0
    try clear hfz54_1
    try clear hfz54_2
    try clear hfz54_3
    try clear hfz67_0
    try clear hfz67_1
    try clear hfz67_2
    try clear hfz67_3
    try clear hfz70_0
    try clear hfz70_1
    try clear hfz70_2
    try clear hfz70_3
    try clear p2
    try clear p6
    obtain ⟨kq, x107_60, rfl, HA, HJ60, HO_10, BK498, BK520, HB⟩ := hcut
    cases kq with
    | zero => exact absurd HA.out (by simp [dialtonelaw12_PlanForms.j1])
    | succ kj60 =>
     have H := HA.out
     clear HA
     simp only [dialtonelaw12_PlanForms.j1] at H
     by_cases c71 : x107_60 = true
     ·subst c71
      rw [if_pos rfl] at H
      by_cases c72 : t519 = 0
      rotate_left
      ·rw [if_neg c72] at H
       have c72b0 : (t519 == 0) = false := beq_eq_false_iff_ne.mpr c72
       have c72b1 : (t519 != 0) = true := bne_iff_ne.mpr c72
       obtain rfl := Option.some.inj H
       go_wp2
       go_ret
       exact ⟨zr28, zr22⟩
      rw [if_pos c72] at H
      have c72b0 : (t519 == 0) = true := beq_iff_eq.mpr c72
      have c72b1 : (t519 != 0) = false := bne_eq_false_iff_eq.mpr c72
      clear c72
      by_cases c73 : t516 = 0
      rotate_left
      ·rw [if_neg c73] at H
       have c73b0 : (t516 == 0) = false := beq_eq_false_iff_ne.mpr c73
       have c73b1 : (t516 != 0) = true := bne_iff_ne.mpr c73
       obtain rfl := Option.some.inj H
       have hnb79 := NB520_498.out
       have hnc79 := NB498_520.out
       have hcz80_0 : wc.cell? ⟨gb520, 0, none⟩ = some (.int .i64 t515) := (blk_cell BK520.out 0).trans rfl
       have hcz80_1 : wc.cell? ⟨gb520, 1, none⟩ = some (.int .i64 t516) := (blk_cell BK520.out 1).trans rfl
       have hcz80_2 : wc.cell? ⟨gb520, 2, none⟩ = some (.int .i64 t517) := (blk_cell BK520.out 2).trans rfl
       have hcz80_3 : wc.cell? ⟨gb520, 3, none⟩ = some (.int .i64 t518) := (blk_cell BK520.out 3).trans rfl
       have hfz80_0 := blk_frozen BK520.out 0
       have hfz80_1 := blk_frozen BK520.out 1
       have hfz80_2 := blk_frozen BK520.out 2
       have hfz80_3 := blk_frozen BK520.out 3
       go_wp2
       go_ret
       exact ⟨zr28, zr22⟩
      rw [if_pos c73] at H
      have c73b0 : (t516 == 0) = true := beq_iff_eq.mpr c73
      have c73b1 : (t516 != 0) = false := bne_eq_false_iff_eq.mpr c73
      clear c73
      by_cases c74 : t517 = 0
      rotate_left
      ·rw [if_neg c74] at H
       have c74b0 : (t517 == 0) = false := beq_eq_false_iff_ne.mpr c74
       have c74b1 : (t517 != 0) = true := bne_iff_ne.mpr c74
       obtain rfl := Option.some.inj H
       have hnb77 := NB520_498.out
       have hnc77 := NB498_520.out
       have hcz78_0 : wc.cell? ⟨gb520, 0, none⟩ = some (.int .i64 t515) := (blk_cell BK520.out 0).trans rfl
       have hcz78_1 : wc.cell? ⟨gb520, 1, none⟩ = some (.int .i64 t516) := (blk_cell BK520.out 1).trans rfl
       have hcz78_2 : wc.cell? ⟨gb520, 2, none⟩ = some (.int .i64 t517) := (blk_cell BK520.out 2).trans rfl
       have hcz78_3 : wc.cell? ⟨gb520, 3, none⟩ = some (.int .i64 t518) := (blk_cell BK520.out 3).trans rfl
       have hfz78_0 := blk_frozen BK520.out 0
       have hfz78_1 := blk_frozen BK520.out 1
       have hfz78_2 := blk_frozen BK520.out 2
       have hfz78_3 := blk_frozen BK520.out 3
       go_wp2
       go_ret
       exact ⟨zr28, zr22⟩
      rw [if_pos c74] at H
      have c74b0 : (t517 == 0) = true := beq_iff_eq.mpr c74
      have c74b1 : (t517 != 0) = false := bne_eq_false_iff_eq.mpr c74
      clear c74
      obtain rfl := Option.some.inj H
      have hnb75 := NB520_498.out
      have hnc75 := NB498_520.out
      have hcz76_0 : wc.cell? ⟨gb520, 0, none⟩ = some (.int .i64 t515) := (blk_cell BK520.out 0).trans rfl
      have hcz76_1 : wc.cell? ⟨gb520, 1, none⟩ = some (.int .i64 t516) := (blk_cell BK520.out 1).trans rfl
      have hcz76_2 : wc.cell? ⟨gb520, 2, none⟩ = some (.int .i64 t517) := (blk_cell BK520.out 2).trans rfl
      have hcz76_3 : wc.cell? ⟨gb520, 3, none⟩ = some (.int .i64 t518) := (blk_cell BK520.out 3).trans rfl
      have hfz76_0 := blk_frozen BK520.out 0
      have hfz76_1 := blk_frozen BK520.out 1
      have hfz76_2 := blk_frozen BK520.out 2
      have hfz76_3 := blk_frozen BK520.out 3
      go_wp2
      go_ret
      exact ⟨zr28, zr22⟩
     replace c71 := Bool.eq_false_iff.mpr c71
     subst c71
     rw [if_neg (show ¬ (false = true) by decide)] at H
     replace H := Option.bind_eq_some_iff.mp H
     obtain ⟨⟨t521, t522⟩, A810, H⟩ := H
     try dsimp only at H
     have A81 := Aside0.mk A810
     clear A810
     replace H := Option.bind_eq_some_iff.mp H
     obtain ⟨⟨t523, t524⟩, A820, H⟩ := H
     try dsimp only at H
     have A82 := Aside0.mk A820
     clear A820
     by_cases c83 : t524 = 0
     rotate_left
     ·rw [if_neg c83] at H
      have c83b0 : (t524 == 0) = false := beq_eq_false_iff_ne.mpr c83
      have c83b1 : (t524 != 0) = true := bne_iff_ne.mpr c83
      obtain rfl := Option.some.inj H
      have hnb145 := NB520_498.out
      have hnc145 := NB498_520.out
      have hcz146_0 : wc.cell? ⟨gb520, 0, none⟩ = some (.int .i64 t515) := (blk_cell BK520.out 0).trans rfl
      have hcz146_1 : wc.cell? ⟨gb520, 1, none⟩ = some (.int .i64 t516) := (blk_cell BK520.out 1).trans rfl
      have hcz146_2 : wc.cell? ⟨gb520, 2, none⟩ = some (.int .i64 t517) := (blk_cell BK520.out 2).trans rfl
      have hcz146_3 : wc.cell? ⟨gb520, 3, none⟩ = some (.int .i64 t518) := (blk_cell BK520.out 3).trans rfl
      have hfz146_0 := blk_frozen BK520.out 0
      have hfz146_1 := blk_frozen BK520.out 1
      have hfz146_2 := blk_frozen BK520.out 2
      have hfz146_3 := blk_frozen BK520.out 3
      go_wp2_with (first | ((with_reducible refine gate_callee (f := 17) rfl ?_); refine goesL_ (some 129) rfl rfl Tryz.func17 (by kernel_rfl) rfl #[.slice Ao16 t500.length co16, .int .i64 t516, .int .i64 1] rfl (zq3) ?_; (with_reducible refine (plan_Write.calls kj60 _ _ t500 t516 1 t521 t522 _ ?side1 ?side2 ?side3 A81.out).mono ?_); (case side1 => exact zr19); (case side2 => exact zr20); (case side3 => exact zr21); rintro e w147 ⟨rfl, hb⟩; refine ⟨_, rfl, ?_⟩; have n0_ := Aside0.mk (Kd.R_below (zr18) hb); have n1_ := Aside0.mk (blk_below (g := gb498) (o := .cells #[.int .i64 a1_0, .int .i64 a1_1] 50 (0, 0)) (zr9) hb); have n2_ := Aside0.mk (blk_below (g := gb520) (o := .cells #[.int .i64 t515, .int .i64 t516, .int .i64 t517, .int .i64 t518] 44 (0, 0)) (zr23) hb); have n3_ := Aside0.mk (below_step (zr22) hb); clear HO_10; clear BK498; clear BK520; clear HB; have HO_10 := n0_; have BK498 := n1_; have BK520 := n2_; have HB := n3_; clear n0_ n1_ n2_ n3_; (try clear hb); (try clear hb2); (try clear hk); (try clear hi); have hcz148_0 : w147.cell? ⟨gb520, 0, none⟩ = some (.int .i64 t515) := (blk_cell BK520.out 0).trans rfl; have hcz148_1 : w147.cell? ⟨gb520, 1, none⟩ = some (.int .i64 t516) := (blk_cell BK520.out 1).trans rfl; have hcz148_2 : w147.cell? ⟨gb520, 2, none⟩ = some (.int .i64 t517) := (blk_cell BK520.out 2).trans rfl; have hcz148_3 : w147.cell? ⟨gb520, 3, none⟩ = some (.int .i64 t518) := (blk_cell BK520.out 3).trans rfl; have hfz148_0 := blk_frozen BK520.out 0; have hfz148_1 := blk_frozen BK520.out 1; have hfz148_2 := blk_frozen BK520.out 2; have hfz148_3 := blk_frozen BK520.out 3) | ((with_reducible refine gate_callee (f := 17) rfl ?_); refine goesL_ (some 136) rfl rfl Tryz.func17 (by kernel_rfl) rfl #[.slice Ao16 t500.length co16, .int .i64 t516, .int .i64 3] rfl (zq3) ?_; (with_reducible refine (plan_Write.calls kj60 _ _ t500 t516 3 t523 t524 _ ?side1 ?side2 ?side3 A82.out).mono ?_); (case side1 => exact zr19); (case side2 => exact zr20); (case side3 => exact zr21); rintro e w149 ⟨rfl, hb⟩; refine ⟨_, rfl, ?_⟩; have n0_ := Aside0.mk (Kd.R_below (zr18) hb); have n1_ := Aside0.mk (blk_below (g := gb498) (o := .cells #[.int .i64 a1_0, .int .i64 a1_1] 50 (0, 0)) (zr9) hb); have n2_ := Aside0.mk (blk_below (g := gb520) (o := .cells #[.int .i64 t515, .int .i64 t516, .int .i64 t517, .int .i64 t518] 44 (0, 0)) (zr23) hb); have n3_ := Aside0.mk (below_step (zr22) hb); clear HO_10; clear BK498; clear BK520; clear HB; have HO_10 := n0_; have BK498 := n1_; have BK520 := n2_; have HB := n3_; clear n0_ n1_ n2_ n3_; (try clear hb); (try clear hb2); (try clear hk); (try clear hi)))
      go_ret
      exact ⟨zr28, zr22⟩
     rw [if_pos c83] at H
     have c83b0 : (t524 == 0) = true := beq_iff_eq.mpr c83
     have c83b1 : (t524 != 0) = false := bne_eq_false_iff_eq.mpr c83
     clear c83
     by_cases c84 : t518 > ((t505 ++ t514).size : Int)
     ·rw [if_pos c84] at H
      have c84b0 : decide (((t505 ++ t514).size : Int) < t518) = true := decide_eq_true c84
      (try (have c84b0s := c84b0; simp only [ByteArray.size_append, Int.natCast_add] at c84b0s))
      clear c84
      obtain rfl := Option.some.inj H
      have hnb85 := NB520_498.out
      have hnc85 := NB498_520.out
      have hcz86_0 : wc.cell? ⟨gb520, 0, none⟩ = some (.int .i64 t515) := (blk_cell BK520.out 0).trans rfl
      have hcz86_1 : wc.cell? ⟨gb520, 1, none⟩ = some (.int .i64 t516) := (blk_cell BK520.out 1).trans rfl
      have hcz86_2 : wc.cell? ⟨gb520, 2, none⟩ = some (.int .i64 t517) := (blk_cell BK520.out 2).trans rfl
      have hcz86_3 : wc.cell? ⟨gb520, 3, none⟩ = some (.int .i64 t518) := (blk_cell BK520.out 3).trans rfl
      have hfz86_0 := blk_frozen BK520.out 0
      have hfz86_1 := blk_frozen BK520.out 1
      have hfz86_2 := blk_frozen BK520.out 2
      have hfz86_3 := blk_frozen BK520.out 3
      go_wp2_with (first | ((with_reducible refine gate_callee (f := 17) rfl ?_); refine goesL_ (some 129) rfl rfl Tryz.func17 (by kernel_rfl) rfl #[.slice Ao16 t500.length co16, .int .i64 t516, .int .i64 1] rfl (zq3) ?_; (with_reducible refine (plan_Write.calls kj60 _ _ t500 t516 1 t521 t522 _ ?side1 ?side2 ?side3 A81.out).mono ?_); (case side1 => exact zr19); (case side2 => exact zr20); (case side3 => exact zr21); rintro e w87 ⟨rfl, hb⟩; refine ⟨_, rfl, ?_⟩; have n0_ := Aside0.mk (Kd.R_below (zr18) hb); have n1_ := Aside0.mk (blk_below (g := gb498) (o := .cells #[.int .i64 a1_0, .int .i64 a1_1] 50 (0, 0)) (zr9) hb); have n2_ := Aside0.mk (blk_below (g := gb520) (o := .cells #[.int .i64 t515, .int .i64 t516, .int .i64 t517, .int .i64 t518] 44 (0, 0)) (zr23) hb); have n3_ := Aside0.mk (below_step (zr22) hb); clear HO_10; clear BK498; clear BK520; clear HB; have HO_10 := n0_; have BK498 := n1_; have BK520 := n2_; have HB := n3_; clear n0_ n1_ n2_ n3_; (try clear hb); (try clear hb2); (try clear hk); (try clear hi); have hcz88_0 : w87.cell? ⟨gb520, 0, none⟩ = some (.int .i64 t515) := (blk_cell BK520.out 0).trans rfl; have hcz88_1 : w87.cell? ⟨gb520, 1, none⟩ = some (.int .i64 t516) := (blk_cell BK520.out 1).trans rfl; have hcz88_2 : w87.cell? ⟨gb520, 2, none⟩ = some (.int .i64 t517) := (blk_cell BK520.out 2).trans rfl; have hcz88_3 : w87.cell? ⟨gb520, 3, none⟩ = some (.int .i64 t518) := (blk_cell BK520.out 3).trans rfl; have hfz88_0 := blk_frozen BK520.out 0; have hfz88_1 := blk_frozen BK520.out 1; have hfz88_2 := blk_frozen BK520.out 2; have hfz88_3 := blk_frozen BK520.out 3) | ((with_reducible refine gate_callee (f := 17) rfl ?_); refine goesL_ (some 136) rfl rfl Tryz.func17 (by kernel_rfl) rfl #[.slice Ao16 t500.length co16, .int .i64 t516, .int .i64 3] rfl (zq3) ?_; (with_reducible refine (plan_Write.calls kj60 _ _ t500 t516 3 t523 t524 _ ?side1 ?side2 ?side3 A82.out).mono ?_); (case side1 => exact zr19); (case side2 => exact zr20); (case side3 => exact zr21); rintro e w89 ⟨rfl, hb⟩; refine ⟨_, rfl, ?_⟩; have n0_ := Aside0.mk (Kd.R_below (zr18) hb); have n1_ := Aside0.mk (blk_below (g := gb498) (o := .cells #[.int .i64 a1_0, .int .i64 a1_1] 50 (0, 0)) (zr9) hb); have n2_ := Aside0.mk (blk_below (g := gb520) (o := .cells #[.int .i64 t515, .int .i64 t516, .int .i64 t517, .int .i64 t518] 44 (0, 0)) (zr23) hb); have n3_ := Aside0.mk (below_step (zr22) hb); clear HO_10; clear BK498; clear BK520; clear HB; have HO_10 := n0_; have BK498 := n1_; have BK520 := n2_; have HB := n3_; clear n0_ n1_ n2_ n3_; (try clear hb); (try clear hb2); (try clear hk); (try clear hi); have hcz90_0 : w89.cell? ⟨gb520, 0, none⟩ = some (.int .i64 t515) := (blk_cell BK520.out 0).trans rfl; have hcz90_1 : w89.cell? ⟨gb520, 1, none⟩ = some (.int .i64 t516) := (blk_cell BK520.out 1).trans rfl; have hcz90_2 : w89.cell? ⟨gb520, 2, none⟩ = some (.int .i64 t517) := (blk_cell BK520.out 2).trans rfl; have hcz90_3 : w89.cell? ⟨gb520, 3, none⟩ = some (.int .i64 t518) := (blk_cell BK520.out 3).trans rfl; have hfz90_0 := blk_frozen BK520.out 0; have hfz90_1 := blk_frozen BK520.out 1; have hfz90_2 := blk_frozen BK520.out 2; have hfz90_3 := blk_frozen BK520.out 3))
      go_ret
      exact ⟨zr28, zr22⟩
     rw [if_neg c84] at H
     have c84b0 : decide (((t505 ++ t514).size : Int) < t518) = false := decide_eq_false c84
     (try (have c84b0s := c84b0; simp only [ByteArray.size_append, Int.natCast_add] at c84b0s))
     clear c84
     by_cases c91 : 0 ≤ t518
     rotate_left
     ·rw [if_neg c91] at H
      exact absurd H (by simp)
     rw [if_pos c91] at H
     have c91b0 := eq_true c91
     have c91b1 : decide (0 ≤ t518) = true := decide_eq_true c91
     clear c91
     by_cases c92 : t518 ≤ ((t505 ++ t514).size : Int)
     rotate_left
     ·rw [if_neg c92] at H
      exact absurd H (by simp)
     rw [if_pos c92] at H
     have c92b0 := eq_true c92
     (try (have c92b0s := c92b0; simp only [ByteArray.size_append, Int.natCast_add] at c92b0s))
     have c92b1 : decide (t518 ≤ ((t505 ++ t514).size : Int)) = true := decide_eq_true c92
     (try (have c92b1s := c92b1; simp only [ByteArray.size_append, Int.natCast_add] at c92b1s))
     by_cases c93 : ((t505 ++ t514).extract 0 (t518 : Int).toNat).toList = t523.toList
     rotate_left
     ·rw [if_neg c93] at H
      have c93b0 : (((t505 ++ t514).extract 0 (t518 : Int).toNat).toList == t523.toList) = false := beq_eq_false_iff_ne.mpr c93
      have c93b1 : (((t505 ++ t514).extract 0 (t518 : Int).toNat).toList != t523.toList) = true := bne_iff_ne.mpr c93
      by_cases c123 : t522 = 0
      rotate_left
      ·rw [if_neg c123] at H
       have c123b0 : (t522 == 0) = false := beq_eq_false_iff_ne.mpr c123
       have c123b1 : (t522 != 0) = true := bne_iff_ne.mpr c123
       obtain rfl := Option.some.inj H
       have hnb139 := NB520_498.out
       have hnc139 := NB498_520.out
       have hcz140_0 : wc.cell? ⟨gb520, 0, none⟩ = some (.int .i64 t515) := (blk_cell BK520.out 0).trans rfl
       have hcz140_1 : wc.cell? ⟨gb520, 1, none⟩ = some (.int .i64 t516) := (blk_cell BK520.out 1).trans rfl
       have hcz140_2 : wc.cell? ⟨gb520, 2, none⟩ = some (.int .i64 t517) := (blk_cell BK520.out 2).trans rfl
       have hcz140_3 : wc.cell? ⟨gb520, 3, none⟩ = some (.int .i64 t518) := (blk_cell BK520.out 3).trans rfl
       have hfz140_0 := blk_frozen BK520.out 0
       have hfz140_1 := blk_frozen BK520.out 1
       have hfz140_2 := blk_frozen BK520.out 2
       have hfz140_3 := blk_frozen BK520.out 3
       go_wp2_with (first | ((with_reducible refine gate_callee (f := 17) rfl ?_); refine goesL_ (some 129) rfl rfl Tryz.func17 (by kernel_rfl) rfl #[.slice Ao16 t500.length co16, .int .i64 t516, .int .i64 1] rfl (zq3) ?_; (with_reducible refine (plan_Write.calls kj60 _ _ t500 t516 1 t521 t522 _ ?side1 ?side2 ?side3 A81.out).mono ?_); (case side1 => exact zr19); (case side2 => exact zr20); (case side3 => exact zr21); rintro e w141 ⟨rfl, hb⟩; refine ⟨_, rfl, ?_⟩; have n0_ := Aside0.mk (Kd.R_below (zr18) hb); have n1_ := Aside0.mk (blk_below (g := gb498) (o := .cells #[.int .i64 a1_0, .int .i64 a1_1] 50 (0, 0)) (zr9) hb); have n2_ := Aside0.mk (blk_below (g := gb520) (o := .cells #[.int .i64 t515, .int .i64 t516, .int .i64 t517, .int .i64 t518] 44 (0, 0)) (zr23) hb); have n3_ := Aside0.mk (below_step (zr22) hb); clear HO_10; clear BK498; clear BK520; clear HB; have HO_10 := n0_; have BK498 := n1_; have BK520 := n2_; have HB := n3_; clear n0_ n1_ n2_ n3_; (try clear hb); (try clear hb2); (try clear hk); (try clear hi); have hcz142_0 : w141.cell? ⟨gb520, 0, none⟩ = some (.int .i64 t515) := (blk_cell BK520.out 0).trans rfl; have hcz142_1 : w141.cell? ⟨gb520, 1, none⟩ = some (.int .i64 t516) := (blk_cell BK520.out 1).trans rfl; have hcz142_2 : w141.cell? ⟨gb520, 2, none⟩ = some (.int .i64 t517) := (blk_cell BK520.out 2).trans rfl; have hcz142_3 : w141.cell? ⟨gb520, 3, none⟩ = some (.int .i64 t518) := (blk_cell BK520.out 3).trans rfl; have hfz142_0 := blk_frozen BK520.out 0; have hfz142_1 := blk_frozen BK520.out 1; have hfz142_2 := blk_frozen BK520.out 2; have hfz142_3 := blk_frozen BK520.out 3) | ((with_reducible refine gate_callee (f := 17) rfl ?_); refine goesL_ (some 136) rfl rfl Tryz.func17 (by kernel_rfl) rfl #[.slice Ao16 t500.length co16, .int .i64 t516, .int .i64 3] rfl (zq3) ?_; (with_reducible refine (plan_Write.calls kj60 _ _ t500 t516 3 t523 t524 _ ?side1 ?side2 ?side3 A82.out).mono ?_); (case side1 => exact zr19); (case side2 => exact zr20); (case side3 => exact zr21); rintro e w143 ⟨rfl, hb⟩; refine ⟨_, rfl, ?_⟩; have n0_ := Aside0.mk (Kd.R_below (zr18) hb); have n1_ := Aside0.mk (blk_below (g := gb498) (o := .cells #[.int .i64 a1_0, .int .i64 a1_1] 50 (0, 0)) (zr9) hb); have n2_ := Aside0.mk (blk_below (g := gb520) (o := .cells #[.int .i64 t515, .int .i64 t516, .int .i64 t517, .int .i64 t518] 44 (0, 0)) (zr23) hb); have n3_ := Aside0.mk (below_step (zr22) hb); clear HO_10; clear BK498; clear BK520; clear HB; have HO_10 := n0_; have BK498 := n1_; have BK520 := n2_; have HB := n3_; clear n0_ n1_ n2_ n3_; (try clear hb); (try clear hb2); (try clear hk); (try clear hi); have hcz144_0 : w143.cell? ⟨gb520, 0, none⟩ = some (.int .i64 t515) := (blk_cell BK520.out 0).trans rfl; have hcz144_1 : w143.cell? ⟨gb520, 1, none⟩ = some (.int .i64 t516) := (blk_cell BK520.out 1).trans rfl; have hcz144_2 : w143.cell? ⟨gb520, 2, none⟩ = some (.int .i64 t517) := (blk_cell BK520.out 2).trans rfl; have hcz144_3 : w143.cell? ⟨gb520, 3, none⟩ = some (.int .i64 t518) := (blk_cell BK520.out 3).trans rfl; have hfz144_0 := blk_frozen BK520.out 0; have hfz144_1 := blk_frozen BK520.out 1; have hfz144_2 := blk_frozen BK520.out 2; have hfz144_3 := blk_frozen BK520.out 3))
       go_ret
       exact ⟨zr28, zr22⟩
      rw [if_pos c123] at H
      have c123b0 : (t522 == 0) = true := beq_iff_eq.mpr c123
      have c123b1 : (t522 != 0) = false := bne_eq_false_iff_eq.mpr c123
      clear c123
      have c124b0 := eq_true (of_decide_eq_true (zq14) : 0 ≤ t518)
      have c125b0 := eq_true (of_decide_eq_true (zq14) : t518 ≤ ((t505 ++ t514).size : Int))
      (try (have c125b0s := c125b0; simp only [ByteArray.size_append, Int.natCast_add] at c125b0s))
      by_cases c126 : ((t505 ++ t514).extract 0 (t518 : Int).toNat).toList = t521.toList
      rotate_left
      ·rw [if_neg c126] at H
       have c126b0 : (((t505 ++ t514).extract 0 (t518 : Int).toNat).toList == t521.toList) = false := beq_eq_false_iff_ne.mpr c126
       have c126b1 : (((t505 ++ t514).extract 0 (t518 : Int).toNat).toList != t521.toList) = true := bne_iff_ne.mpr c126
       obtain rfl := Option.some.inj H
       have hnb133 := NB520_498.out
       have hnc133 := NB498_520.out
       have hcz134_0 : wc.cell? ⟨gb520, 0, none⟩ = some (.int .i64 t515) := (blk_cell BK520.out 0).trans rfl
       have hcz134_1 : wc.cell? ⟨gb520, 1, none⟩ = some (.int .i64 t516) := (blk_cell BK520.out 1).trans rfl
       have hcz134_2 : wc.cell? ⟨gb520, 2, none⟩ = some (.int .i64 t517) := (blk_cell BK520.out 2).trans rfl
       have hcz134_3 : wc.cell? ⟨gb520, 3, none⟩ = some (.int .i64 t518) := (blk_cell BK520.out 3).trans rfl
       have hfz134_0 := blk_frozen BK520.out 0
       have hfz134_1 := blk_frozen BK520.out 1
       have hfz134_2 := blk_frozen BK520.out 2
       have hfz134_3 := blk_frozen BK520.out 3
       go_wp2_with (first | ((with_reducible refine gate_callee (f := 17) rfl ?_); refine goesL_ (some 129) rfl rfl Tryz.func17 (by kernel_rfl) rfl #[.slice Ao16 t500.length co16, .int .i64 t516, .int .i64 1] rfl (zq3) ?_; (with_reducible refine (plan_Write.calls kj60 _ _ t500 t516 1 t521 t522 _ ?side1 ?side2 ?side3 A81.out).mono ?_); (case side1 => exact zr19); (case side2 => exact zr20); (case side3 => exact zr21); rintro e w135 ⟨rfl, hb⟩; refine ⟨_, rfl, ?_⟩; have n0_ := Aside0.mk (Kd.R_below (zr18) hb); have n1_ := Aside0.mk (blk_below (g := gb498) (o := .cells #[.int .i64 a1_0, .int .i64 a1_1] 50 (0, 0)) (zr9) hb); have n2_ := Aside0.mk (blk_below (g := gb520) (o := .cells #[.int .i64 t515, .int .i64 t516, .int .i64 t517, .int .i64 t518] 44 (0, 0)) (zr23) hb); have n3_ := Aside0.mk (below_step (zr22) hb); clear HO_10; clear BK498; clear BK520; clear HB; have HO_10 := n0_; have BK498 := n1_; have BK520 := n2_; have HB := n3_; clear n0_ n1_ n2_ n3_; (try clear hb); (try clear hb2); (try clear hk); (try clear hi); have hcz136_0 : w135.cell? ⟨gb520, 0, none⟩ = some (.int .i64 t515) := (blk_cell BK520.out 0).trans rfl; have hcz136_1 : w135.cell? ⟨gb520, 1, none⟩ = some (.int .i64 t516) := (blk_cell BK520.out 1).trans rfl; have hcz136_2 : w135.cell? ⟨gb520, 2, none⟩ = some (.int .i64 t517) := (blk_cell BK520.out 2).trans rfl; have hcz136_3 : w135.cell? ⟨gb520, 3, none⟩ = some (.int .i64 t518) := (blk_cell BK520.out 3).trans rfl; have hfz136_0 := blk_frozen BK520.out 0; have hfz136_1 := blk_frozen BK520.out 1; have hfz136_2 := blk_frozen BK520.out 2; have hfz136_3 := blk_frozen BK520.out 3) | ((with_reducible refine gate_callee (f := 17) rfl ?_); refine goesL_ (some 136) rfl rfl Tryz.func17 (by kernel_rfl) rfl #[.slice Ao16 t500.length co16, .int .i64 t516, .int .i64 3] rfl (zq3) ?_; (with_reducible refine (plan_Write.calls kj60 _ _ t500 t516 3 t523 t524 _ ?side1 ?side2 ?side3 A82.out).mono ?_); (case side1 => exact zr19); (case side2 => exact zr20); (case side3 => exact zr21); rintro e w137 ⟨rfl, hb⟩; refine ⟨_, rfl, ?_⟩; have n0_ := Aside0.mk (Kd.R_below (zr18) hb); have n1_ := Aside0.mk (blk_below (g := gb498) (o := .cells #[.int .i64 a1_0, .int .i64 a1_1] 50 (0, 0)) (zr9) hb); have n2_ := Aside0.mk (blk_below (g := gb520) (o := .cells #[.int .i64 t515, .int .i64 t516, .int .i64 t517, .int .i64 t518] 44 (0, 0)) (zr23) hb); have n3_ := Aside0.mk (below_step (zr22) hb); clear HO_10; clear BK498; clear BK520; clear HB; have HO_10 := n0_; have BK498 := n1_; have BK520 := n2_; have HB := n3_; clear n0_ n1_ n2_ n3_; (try clear hb); (try clear hb2); (try clear hk); (try clear hi); have hcz138_0 : w137.cell? ⟨gb520, 0, none⟩ = some (.int .i64 t515) := (blk_cell BK520.out 0).trans rfl; have hcz138_1 : w137.cell? ⟨gb520, 1, none⟩ = some (.int .i64 t516) := (blk_cell BK520.out 1).trans rfl; have hcz138_2 : w137.cell? ⟨gb520, 2, none⟩ = some (.int .i64 t517) := (blk_cell BK520.out 2).trans rfl; have hcz138_3 : w137.cell? ⟨gb520, 3, none⟩ = some (.int .i64 t518) := (blk_cell BK520.out 3).trans rfl; have hfz138_0 := blk_frozen BK520.out 0; have hfz138_1 := blk_frozen BK520.out 1; have hfz138_2 := blk_frozen BK520.out 2; have hfz138_3 := blk_frozen BK520.out 3))
       go_ret
       exact ⟨zr28, zr22⟩
      rw [if_pos c126] at H
      have c126b0 : (((t505 ++ t514).extract 0 (t518 : Int).toNat).toList == t521.toList) = true := beq_iff_eq.mpr c126
      have c126b1 : (((t505 ++ t514).extract 0 (t518 : Int).toNat).toList != t521.toList) = false := bne_eq_false_iff_eq.mpr c126
      clear c126
      obtain rfl := Option.some.inj H
      have hnb127 := NB520_498.out
      have hnc127 := NB498_520.out
      have hcz128_0 : wc.cell? ⟨gb520, 0, none⟩ = some (.int .i64 t515) := (blk_cell BK520.out 0).trans rfl
      have hcz128_1 : wc.cell? ⟨gb520, 1, none⟩ = some (.int .i64 t516) := (blk_cell BK520.out 1).trans rfl
      have hcz128_2 : wc.cell? ⟨gb520, 2, none⟩ = some (.int .i64 t517) := (blk_cell BK520.out 2).trans rfl
      have hcz128_3 : wc.cell? ⟨gb520, 3, none⟩ = some (.int .i64 t518) := (blk_cell BK520.out 3).trans rfl
      have hfz128_0 := blk_frozen BK520.out 0
      have hfz128_1 := blk_frozen BK520.out 1
      have hfz128_2 := blk_frozen BK520.out 2
      have hfz128_3 := blk_frozen BK520.out 3
      go_wp2_with (first | ((with_reducible refine gate_callee (f := 17) rfl ?_); refine goesL_ (some 129) rfl rfl Tryz.func17 (by kernel_rfl) rfl #[.slice Ao16 t500.length co16, .int .i64 t516, .int .i64 1] rfl (zq3) ?_; (with_reducible refine (plan_Write.calls kj60 _ _ t500 t516 1 t521 t522 _ ?side1 ?side2 ?side3 A81.out).mono ?_); (case side1 => exact zr19); (case side2 => exact zr20); (case side3 => exact zr21); rintro e w129 ⟨rfl, hb⟩; refine ⟨_, rfl, ?_⟩; have n0_ := Aside0.mk (Kd.R_below (zr18) hb); have n1_ := Aside0.mk (blk_below (g := gb498) (o := .cells #[.int .i64 a1_0, .int .i64 a1_1] 50 (0, 0)) (zr9) hb); have n2_ := Aside0.mk (blk_below (g := gb520) (o := .cells #[.int .i64 t515, .int .i64 t516, .int .i64 t517, .int .i64 t518] 44 (0, 0)) (zr23) hb); have n3_ := Aside0.mk (below_step (zr22) hb); clear HO_10; clear BK498; clear BK520; clear HB; have HO_10 := n0_; have BK498 := n1_; have BK520 := n2_; have HB := n3_; clear n0_ n1_ n2_ n3_; (try clear hb); (try clear hb2); (try clear hk); (try clear hi); have hcz130_0 : w129.cell? ⟨gb520, 0, none⟩ = some (.int .i64 t515) := (blk_cell BK520.out 0).trans rfl; have hcz130_1 : w129.cell? ⟨gb520, 1, none⟩ = some (.int .i64 t516) := (blk_cell BK520.out 1).trans rfl; have hcz130_2 : w129.cell? ⟨gb520, 2, none⟩ = some (.int .i64 t517) := (blk_cell BK520.out 2).trans rfl; have hcz130_3 : w129.cell? ⟨gb520, 3, none⟩ = some (.int .i64 t518) := (blk_cell BK520.out 3).trans rfl; have hfz130_0 := blk_frozen BK520.out 0; have hfz130_1 := blk_frozen BK520.out 1; have hfz130_2 := blk_frozen BK520.out 2; have hfz130_3 := blk_frozen BK520.out 3) | ((with_reducible refine gate_callee (f := 17) rfl ?_); refine goesL_ (some 136) rfl rfl Tryz.func17 (by kernel_rfl) rfl #[.slice Ao16 t500.length co16, .int .i64 t516, .int .i64 3] rfl (zq3) ?_; (with_reducible refine (plan_Write.calls kj60 _ _ t500 t516 3 t523 t524 _ ?side1 ?side2 ?side3 A82.out).mono ?_); (case side1 => exact zr19); (case side2 => exact zr20); (case side3 => exact zr21); rintro e w131 ⟨rfl, hb⟩; refine ⟨_, rfl, ?_⟩; have n0_ := Aside0.mk (Kd.R_below (zr18) hb); have n1_ := Aside0.mk (blk_below (g := gb498) (o := .cells #[.int .i64 a1_0, .int .i64 a1_1] 50 (0, 0)) (zr9) hb); have n2_ := Aside0.mk (blk_below (g := gb520) (o := .cells #[.int .i64 t515, .int .i64 t516, .int .i64 t517, .int .i64 t518] 44 (0, 0)) (zr23) hb); have n3_ := Aside0.mk (below_step (zr22) hb); clear HO_10; clear BK498; clear BK520; clear HB; have HO_10 := n0_; have BK498 := n1_; have BK520 := n2_; have HB := n3_; clear n0_ n1_ n2_ n3_; (try clear hb); (try clear hb2); (try clear hk); (try clear hi); have hcz132_0 : w131.cell? ⟨gb520, 0, none⟩ = some (.int .i64 t515) := (blk_cell BK520.out 0).trans rfl; have hcz132_1 : w131.cell? ⟨gb520, 1, none⟩ = some (.int .i64 t516) := (blk_cell BK520.out 1).trans rfl; have hcz132_2 : w131.cell? ⟨gb520, 2, none⟩ = some (.int .i64 t517) := (blk_cell BK520.out 2).trans rfl; have hcz132_3 : w131.cell? ⟨gb520, 3, none⟩ = some (.int .i64 t518) := (blk_cell BK520.out 3).trans rfl; have hfz132_0 := blk_frozen BK520.out 0; have hfz132_1 := blk_frozen BK520.out 1; have hfz132_2 := blk_frozen BK520.out 2; have hfz132_3 := blk_frozen BK520.out 3))
      go_ret
      exact ⟨zr28, zr22⟩
     rw [if_pos c93] at H
     have c93b0 : (((t505 ++ t514).extract 0 (t518 : Int).toNat).toList == t523.toList) = true := beq_iff_eq.mpr c93
     have c93b1 : (((t505 ++ t514).extract 0 (t518 : Int).toNat).toList != t523.toList) = false := bne_eq_false_iff_eq.mpr c93
     clear c93
     by_cases c94 : (wrap64 (1 + t503)) = 1
     rotate_left
     ·rw [if_neg c94] at H
      have c94b0 : ((wrap64 (1 + t503)) == 1) = false := beq_eq_false_iff_ne.mpr c94
      have c94b1 : ((wrap64 (1 + t503)) != 1) = true := bne_iff_ne.mpr c94
      obtain rfl := Option.some.inj H
      have hnb117 := NB520_498.out
      have hnc117 := NB498_520.out
      have hcz118_0 : wc.cell? ⟨gb520, 0, none⟩ = some (.int .i64 t515) := (blk_cell BK520.out 0).trans rfl
      have hcz118_1 : wc.cell? ⟨gb520, 1, none⟩ = some (.int .i64 t516) := (blk_cell BK520.out 1).trans rfl
      have hcz118_2 : wc.cell? ⟨gb520, 2, none⟩ = some (.int .i64 t517) := (blk_cell BK520.out 2).trans rfl
      have hcz118_3 : wc.cell? ⟨gb520, 3, none⟩ = some (.int .i64 t518) := (blk_cell BK520.out 3).trans rfl
      have hfz118_0 := blk_frozen BK520.out 0
      have hfz118_1 := blk_frozen BK520.out 1
      have hfz118_2 := blk_frozen BK520.out 2
      have hfz118_3 := blk_frozen BK520.out 3
      go_wp2_with (first | ((with_reducible refine gate_callee (f := 17) rfl ?_); refine goesL_ (some 129) rfl rfl Tryz.func17 (by kernel_rfl) rfl #[.slice Ao16 t500.length co16, .int .i64 t516, .int .i64 1] rfl (zq3) ?_; (with_reducible refine (plan_Write.calls kj60 _ _ t500 t516 1 t521 t522 _ ?side1 ?side2 ?side3 A81.out).mono ?_); (case side1 => exact zr19); (case side2 => exact zr20); (case side3 => exact zr21); rintro e w119 ⟨rfl, hb⟩; refine ⟨_, rfl, ?_⟩; have n0_ := Aside0.mk (Kd.R_below (zr18) hb); have n1_ := Aside0.mk (blk_below (g := gb498) (o := .cells #[.int .i64 a1_0, .int .i64 a1_1] 50 (0, 0)) (zr9) hb); have n2_ := Aside0.mk (blk_below (g := gb520) (o := .cells #[.int .i64 t515, .int .i64 t516, .int .i64 t517, .int .i64 t518] 44 (0, 0)) (zr23) hb); have n3_ := Aside0.mk (below_step (zr22) hb); clear HO_10; clear BK498; clear BK520; clear HB; have HO_10 := n0_; have BK498 := n1_; have BK520 := n2_; have HB := n3_; clear n0_ n1_ n2_ n3_; (try clear hb); (try clear hb2); (try clear hk); (try clear hi); have hcz120_0 : w119.cell? ⟨gb520, 0, none⟩ = some (.int .i64 t515) := (blk_cell BK520.out 0).trans rfl; have hcz120_1 : w119.cell? ⟨gb520, 1, none⟩ = some (.int .i64 t516) := (blk_cell BK520.out 1).trans rfl; have hcz120_2 : w119.cell? ⟨gb520, 2, none⟩ = some (.int .i64 t517) := (blk_cell BK520.out 2).trans rfl; have hcz120_3 : w119.cell? ⟨gb520, 3, none⟩ = some (.int .i64 t518) := (blk_cell BK520.out 3).trans rfl; have hfz120_0 := blk_frozen BK520.out 0; have hfz120_1 := blk_frozen BK520.out 1; have hfz120_2 := blk_frozen BK520.out 2; have hfz120_3 := blk_frozen BK520.out 3) | ((with_reducible refine gate_callee (f := 17) rfl ?_); refine goesL_ (some 136) rfl rfl Tryz.func17 (by kernel_rfl) rfl #[.slice Ao16 t500.length co16, .int .i64 t516, .int .i64 3] rfl (zq3) ?_; (with_reducible refine (plan_Write.calls kj60 _ _ t500 t516 3 t523 t524 _ ?side1 ?side2 ?side3 A82.out).mono ?_); (case side1 => exact zr19); (case side2 => exact zr20); (case side3 => exact zr21); rintro e w121 ⟨rfl, hb⟩; refine ⟨_, rfl, ?_⟩; have n0_ := Aside0.mk (Kd.R_below (zr18) hb); have n1_ := Aside0.mk (blk_below (g := gb498) (o := .cells #[.int .i64 a1_0, .int .i64 a1_1] 50 (0, 0)) (zr9) hb); have n2_ := Aside0.mk (blk_below (g := gb520) (o := .cells #[.int .i64 t515, .int .i64 t516, .int .i64 t517, .int .i64 t518] 44 (0, 0)) (zr23) hb); have n3_ := Aside0.mk (below_step (zr22) hb); clear HO_10; clear BK498; clear BK520; clear HB; have HO_10 := n0_; have BK498 := n1_; have BK520 := n2_; have HB := n3_; clear n0_ n1_ n2_ n3_; (try clear hb); (try clear hb2); (try clear hk); (try clear hi); have hcz122_0 : w121.cell? ⟨gb520, 0, none⟩ = some (.int .i64 t515) := (blk_cell BK520.out 0).trans rfl; have hcz122_1 : w121.cell? ⟨gb520, 1, none⟩ = some (.int .i64 t516) := (blk_cell BK520.out 1).trans rfl; have hcz122_2 : w121.cell? ⟨gb520, 2, none⟩ = some (.int .i64 t517) := (blk_cell BK520.out 2).trans rfl; have hcz122_3 : w121.cell? ⟨gb520, 3, none⟩ = some (.int .i64 t518) := (blk_cell BK520.out 3).trans rfl; have hfz122_0 := blk_frozen BK520.out 0; have hfz122_1 := blk_frozen BK520.out 1; have hfz122_2 := blk_frozen BK520.out 2; have hfz122_3 := blk_frozen BK520.out 3))
      go_ret
      exact ⟨zr28, zr22⟩
     rw [if_pos c94] at H
     have c94b0 : ((wrap64 (1 + t503)) == 1) = true := beq_iff_eq.mpr c94
     have c94b1 : ((wrap64 (1 + t503)) != 1) = false := bne_eq_false_iff_eq.mpr c94
     clear c94
     by_cases c95 : t522 = 0
     rotate_left
     ·rw [if_neg c95] at H
      have c95b0 : (t522 == 0) = false := beq_eq_false_iff_ne.mpr c95
      have c95b1 : (t522 != 0) = true := bne_iff_ne.mpr c95
      obtain rfl := Option.some.inj H
      have hnb111 := NB520_498.out
      have hnc111 := NB498_520.out
      have hcz112_0 : wc.cell? ⟨gb520, 0, none⟩ = some (.int .i64 t515) := (blk_cell BK520.out 0).trans rfl
      have hcz112_1 : wc.cell? ⟨gb520, 1, none⟩ = some (.int .i64 t516) := (blk_cell BK520.out 1).trans rfl
      have hcz112_2 : wc.cell? ⟨gb520, 2, none⟩ = some (.int .i64 t517) := (blk_cell BK520.out 2).trans rfl
      have hcz112_3 : wc.cell? ⟨gb520, 3, none⟩ = some (.int .i64 t518) := (blk_cell BK520.out 3).trans rfl
      have hfz112_0 := blk_frozen BK520.out 0
      have hfz112_1 := blk_frozen BK520.out 1
      have hfz112_2 := blk_frozen BK520.out 2
      have hfz112_3 := blk_frozen BK520.out 3
      go_wp2_with (first | ((with_reducible refine gate_callee (f := 17) rfl ?_); refine goesL_ (some 129) rfl rfl Tryz.func17 (by kernel_rfl) rfl #[.slice Ao16 t500.length co16, .int .i64 t516, .int .i64 1] rfl (zq3) ?_; (with_reducible refine (plan_Write.calls kj60 _ _ t500 t516 1 t521 t522 _ ?side1 ?side2 ?side3 A81.out).mono ?_); (case side1 => exact zr19); (case side2 => exact zr20); (case side3 => exact zr21); rintro e w113 ⟨rfl, hb⟩; refine ⟨_, rfl, ?_⟩; have n0_ := Aside0.mk (Kd.R_below (zr18) hb); have n1_ := Aside0.mk (blk_below (g := gb498) (o := .cells #[.int .i64 a1_0, .int .i64 a1_1] 50 (0, 0)) (zr9) hb); have n2_ := Aside0.mk (blk_below (g := gb520) (o := .cells #[.int .i64 t515, .int .i64 t516, .int .i64 t517, .int .i64 t518] 44 (0, 0)) (zr23) hb); have n3_ := Aside0.mk (below_step (zr22) hb); clear HO_10; clear BK498; clear BK520; clear HB; have HO_10 := n0_; have BK498 := n1_; have BK520 := n2_; have HB := n3_; clear n0_ n1_ n2_ n3_; (try clear hb); (try clear hb2); (try clear hk); (try clear hi); have hcz114_0 : w113.cell? ⟨gb520, 0, none⟩ = some (.int .i64 t515) := (blk_cell BK520.out 0).trans rfl; have hcz114_1 : w113.cell? ⟨gb520, 1, none⟩ = some (.int .i64 t516) := (blk_cell BK520.out 1).trans rfl; have hcz114_2 : w113.cell? ⟨gb520, 2, none⟩ = some (.int .i64 t517) := (blk_cell BK520.out 2).trans rfl; have hcz114_3 : w113.cell? ⟨gb520, 3, none⟩ = some (.int .i64 t518) := (blk_cell BK520.out 3).trans rfl; have hfz114_0 := blk_frozen BK520.out 0; have hfz114_1 := blk_frozen BK520.out 1; have hfz114_2 := blk_frozen BK520.out 2; have hfz114_3 := blk_frozen BK520.out 3) | ((with_reducible refine gate_callee (f := 17) rfl ?_); refine goesL_ (some 136) rfl rfl Tryz.func17 (by kernel_rfl) rfl #[.slice Ao16 t500.length co16, .int .i64 t516, .int .i64 3] rfl (zq3) ?_; (with_reducible refine (plan_Write.calls kj60 _ _ t500 t516 3 t523 t524 _ ?side1 ?side2 ?side3 A82.out).mono ?_); (case side1 => exact zr19); (case side2 => exact zr20); (case side3 => exact zr21); rintro e w115 ⟨rfl, hb⟩; refine ⟨_, rfl, ?_⟩; have n0_ := Aside0.mk (Kd.R_below (zr18) hb); have n1_ := Aside0.mk (blk_below (g := gb498) (o := .cells #[.int .i64 a1_0, .int .i64 a1_1] 50 (0, 0)) (zr9) hb); have n2_ := Aside0.mk (blk_below (g := gb520) (o := .cells #[.int .i64 t515, .int .i64 t516, .int .i64 t517, .int .i64 t518] 44 (0, 0)) (zr23) hb); have n3_ := Aside0.mk (below_step (zr22) hb); clear HO_10; clear BK498; clear BK520; clear HB; have HO_10 := n0_; have BK498 := n1_; have BK520 := n2_; have HB := n3_; clear n0_ n1_ n2_ n3_; (try clear hb); (try clear hb2); (try clear hk); (try clear hi); have hcz116_0 : w115.cell? ⟨gb520, 0, none⟩ = some (.int .i64 t515) := (blk_cell BK520.out 0).trans rfl; have hcz116_1 : w115.cell? ⟨gb520, 1, none⟩ = some (.int .i64 t516) := (blk_cell BK520.out 1).trans rfl; have hcz116_2 : w115.cell? ⟨gb520, 2, none⟩ = some (.int .i64 t517) := (blk_cell BK520.out 2).trans rfl; have hcz116_3 : w115.cell? ⟨gb520, 3, none⟩ = some (.int .i64 t518) := (blk_cell BK520.out 3).trans rfl; have hfz116_0 := blk_frozen BK520.out 0; have hfz116_1 := blk_frozen BK520.out 1; have hfz116_2 := blk_frozen BK520.out 2; have hfz116_3 := blk_frozen BK520.out 3))
      go_ret
      exact ⟨zr28, zr22⟩
     rw [if_pos c95] at H
     have c95b0 : (t522 == 0) = true := beq_iff_eq.mpr c95
     have c95b1 : (t522 != 0) = false := bne_eq_false_iff_eq.mpr c95
     clear c95
     have c96b0 := eq_true (of_decide_eq_true (zq14) : 0 ≤ t518)
     have c97b0 := eq_true (of_decide_eq_true (zq14) : t518 ≤ ((t505 ++ t514).size : Int))
     (try (have c97b0s := c97b0; simp only [ByteArray.size_append, Int.natCast_add] at c97b0s))
     by_cases c98 : ((t505 ++ t514).extract 0 (t518 : Int).toNat).toList = t521.toList
     rotate_left
     ·rw [if_neg c98] at H
      have c98b0 : (((t505 ++ t514).extract 0 (t518 : Int).toNat).toList == t521.toList) = false := beq_eq_false_iff_ne.mpr c98
      have c98b1 : (((t505 ++ t514).extract 0 (t518 : Int).toNat).toList != t521.toList) = true := bne_iff_ne.mpr c98
      obtain rfl := Option.some.inj H
      have hnb105 := NB520_498.out
      have hnc105 := NB498_520.out
      have hcz106_0 : wc.cell? ⟨gb520, 0, none⟩ = some (.int .i64 t515) := (blk_cell BK520.out 0).trans rfl
      have hcz106_1 : wc.cell? ⟨gb520, 1, none⟩ = some (.int .i64 t516) := (blk_cell BK520.out 1).trans rfl
      have hcz106_2 : wc.cell? ⟨gb520, 2, none⟩ = some (.int .i64 t517) := (blk_cell BK520.out 2).trans rfl
      have hcz106_3 : wc.cell? ⟨gb520, 3, none⟩ = some (.int .i64 t518) := (blk_cell BK520.out 3).trans rfl
      have hfz106_0 := blk_frozen BK520.out 0
      have hfz106_1 := blk_frozen BK520.out 1
      have hfz106_2 := blk_frozen BK520.out 2
      have hfz106_3 := blk_frozen BK520.out 3
      go_wp2_with (first | ((with_reducible refine gate_callee (f := 17) rfl ?_); refine goesL_ (some 129) rfl rfl Tryz.func17 (by kernel_rfl) rfl #[.slice Ao16 t500.length co16, .int .i64 t516, .int .i64 1] rfl (zq3) ?_; (with_reducible refine (plan_Write.calls kj60 _ _ t500 t516 1 t521 t522 _ ?side1 ?side2 ?side3 A81.out).mono ?_); (case side1 => exact zr19); (case side2 => exact zr20); (case side3 => exact zr21); rintro e w107 ⟨rfl, hb⟩; refine ⟨_, rfl, ?_⟩; have n0_ := Aside0.mk (Kd.R_below (zr18) hb); have n1_ := Aside0.mk (blk_below (g := gb498) (o := .cells #[.int .i64 a1_0, .int .i64 a1_1] 50 (0, 0)) (zr9) hb); have n2_ := Aside0.mk (blk_below (g := gb520) (o := .cells #[.int .i64 t515, .int .i64 t516, .int .i64 t517, .int .i64 t518] 44 (0, 0)) (zr23) hb); have n3_ := Aside0.mk (below_step (zr22) hb); clear HO_10; clear BK498; clear BK520; clear HB; have HO_10 := n0_; have BK498 := n1_; have BK520 := n2_; have HB := n3_; clear n0_ n1_ n2_ n3_; (try clear hb); (try clear hb2); (try clear hk); (try clear hi); have hcz108_0 : w107.cell? ⟨gb520, 0, none⟩ = some (.int .i64 t515) := (blk_cell BK520.out 0).trans rfl; have hcz108_1 : w107.cell? ⟨gb520, 1, none⟩ = some (.int .i64 t516) := (blk_cell BK520.out 1).trans rfl; have hcz108_2 : w107.cell? ⟨gb520, 2, none⟩ = some (.int .i64 t517) := (blk_cell BK520.out 2).trans rfl; have hcz108_3 : w107.cell? ⟨gb520, 3, none⟩ = some (.int .i64 t518) := (blk_cell BK520.out 3).trans rfl; have hfz108_0 := blk_frozen BK520.out 0; have hfz108_1 := blk_frozen BK520.out 1; have hfz108_2 := blk_frozen BK520.out 2; have hfz108_3 := blk_frozen BK520.out 3) | ((with_reducible refine gate_callee (f := 17) rfl ?_); refine goesL_ (some 136) rfl rfl Tryz.func17 (by kernel_rfl) rfl #[.slice Ao16 t500.length co16, .int .i64 t516, .int .i64 3] rfl (zq3) ?_; (with_reducible refine (plan_Write.calls kj60 _ _ t500 t516 3 t523 t524 _ ?side1 ?side2 ?side3 A82.out).mono ?_); (case side1 => exact zr19); (case side2 => exact zr20); (case side3 => exact zr21); rintro e w109 ⟨rfl, hb⟩; refine ⟨_, rfl, ?_⟩; have n0_ := Aside0.mk (Kd.R_below (zr18) hb); have n1_ := Aside0.mk (blk_below (g := gb498) (o := .cells #[.int .i64 a1_0, .int .i64 a1_1] 50 (0, 0)) (zr9) hb); have n2_ := Aside0.mk (blk_below (g := gb520) (o := .cells #[.int .i64 t515, .int .i64 t516, .int .i64 t517, .int .i64 t518] 44 (0, 0)) (zr23) hb); have n3_ := Aside0.mk (below_step (zr22) hb); clear HO_10; clear BK498; clear BK520; clear HB; have HO_10 := n0_; have BK498 := n1_; have BK520 := n2_; have HB := n3_; clear n0_ n1_ n2_ n3_; (try clear hb); (try clear hb2); (try clear hk); (try clear hi); have hcz110_0 : w109.cell? ⟨gb520, 0, none⟩ = some (.int .i64 t515) := (blk_cell BK520.out 0).trans rfl; have hcz110_1 : w109.cell? ⟨gb520, 1, none⟩ = some (.int .i64 t516) := (blk_cell BK520.out 1).trans rfl; have hcz110_2 : w109.cell? ⟨gb520, 2, none⟩ = some (.int .i64 t517) := (blk_cell BK520.out 2).trans rfl; have hcz110_3 : w109.cell? ⟨gb520, 3, none⟩ = some (.int .i64 t518) := (blk_cell BK520.out 3).trans rfl; have hfz110_0 := blk_frozen BK520.out 0; have hfz110_1 := blk_frozen BK520.out 1; have hfz110_2 := blk_frozen BK520.out 2; have hfz110_3 := blk_frozen BK520.out 3))
      go_ret
      exact ⟨zr28, zr22⟩
     rw [if_pos c98] at H
     have c98b0 : (((t505 ++ t514).extract 0 (t518 : Int).toNat).toList == t521.toList) = true := beq_iff_eq.mpr c98
     have c98b1 : (((t505 ++ t514).extract 0 (t518 : Int).toNat).toList != t521.toList) = false := bne_eq_false_iff_eq.mpr c98
     clear c98
     obtain rfl := Option.some.inj H
     have hnb99 := NB520_498.out
     have hnc99 := NB498_520.out
     have hcz100_0 : wc.cell? ⟨gb520, 0, none⟩ = some (.int .i64 t515) := (blk_cell BK520.out 0).trans rfl
     have hcz100_1 : wc.cell? ⟨gb520, 1, none⟩ = some (.int .i64 t516) := (blk_cell BK520.out 1).trans rfl
     have hcz100_2 : wc.cell? ⟨gb520, 2, none⟩ = some (.int .i64 t517) := (blk_cell BK520.out 2).trans rfl
     have hcz100_3 : wc.cell? ⟨gb520, 3, none⟩ = some (.int .i64 t518) := (blk_cell BK520.out 3).trans rfl
     have hfz100_0 := blk_frozen BK520.out 0
     have hfz100_1 := blk_frozen BK520.out 1
     have hfz100_2 := blk_frozen BK520.out 2
     have hfz100_3 := blk_frozen BK520.out 3
     go_wp2_with (first | ((with_reducible refine gate_callee (f := 17) rfl ?_); refine goesL_ (some 129) rfl rfl Tryz.func17 (by kernel_rfl) rfl #[.slice Ao16 t500.length co16, .int .i64 t516, .int .i64 1] rfl (zq3) ?_; (with_reducible refine (plan_Write.calls kj60 _ _ t500 t516 1 t521 t522 _ ?side1 ?side2 ?side3 A81.out).mono ?_); (case side1 => exact zr19); (case side2 => exact zr20); (case side3 => exact zr21); rintro e w101 ⟨rfl, hb⟩; refine ⟨_, rfl, ?_⟩; have n0_ := Aside0.mk (Kd.R_below (zr18) hb); have n1_ := Aside0.mk (blk_below (g := gb498) (o := .cells #[.int .i64 a1_0, .int .i64 a1_1] 50 (0, 0)) (zr9) hb); have n2_ := Aside0.mk (blk_below (g := gb520) (o := .cells #[.int .i64 t515, .int .i64 t516, .int .i64 t517, .int .i64 t518] 44 (0, 0)) (zr23) hb); have n3_ := Aside0.mk (below_step (zr22) hb); clear HO_10; clear BK498; clear BK520; clear HB; have HO_10 := n0_; have BK498 := n1_; have BK520 := n2_; have HB := n3_; clear n0_ n1_ n2_ n3_; (try clear hb); (try clear hb2); (try clear hk); (try clear hi); have hcz102_0 : w101.cell? ⟨gb520, 0, none⟩ = some (.int .i64 t515) := (blk_cell BK520.out 0).trans rfl; have hcz102_1 : w101.cell? ⟨gb520, 1, none⟩ = some (.int .i64 t516) := (blk_cell BK520.out 1).trans rfl; have hcz102_2 : w101.cell? ⟨gb520, 2, none⟩ = some (.int .i64 t517) := (blk_cell BK520.out 2).trans rfl; have hcz102_3 : w101.cell? ⟨gb520, 3, none⟩ = some (.int .i64 t518) := (blk_cell BK520.out 3).trans rfl; have hfz102_0 := blk_frozen BK520.out 0; have hfz102_1 := blk_frozen BK520.out 1; have hfz102_2 := blk_frozen BK520.out 2; have hfz102_3 := blk_frozen BK520.out 3) | ((with_reducible refine gate_callee (f := 17) rfl ?_); refine goesL_ (some 136) rfl rfl Tryz.func17 (by kernel_rfl) rfl #[.slice Ao16 t500.length co16, .int .i64 t516, .int .i64 3] rfl (zq3) ?_; (with_reducible refine (plan_Write.calls kj60 _ _ t500 t516 3 t523 t524 _ ?side1 ?side2 ?side3 A82.out).mono ?_); (case side1 => exact zr19); (case side2 => exact zr20); (case side3 => exact zr21); rintro e w103 ⟨rfl, hb⟩; refine ⟨_, rfl, ?_⟩; have n0_ := Aside0.mk (Kd.R_below (zr18) hb); have n1_ := Aside0.mk (blk_below (g := gb498) (o := .cells #[.int .i64 a1_0, .int .i64 a1_1] 50 (0, 0)) (zr9) hb); have n2_ := Aside0.mk (blk_below (g := gb520) (o := .cells #[.int .i64 t515, .int .i64 t516, .int .i64 t517, .int .i64 t518] 44 (0, 0)) (zr23) hb); have n3_ := Aside0.mk (below_step (zr22) hb); clear HO_10; clear BK498; clear BK520; clear HB; have HO_10 := n0_; have BK498 := n1_; have BK520 := n2_; have HB := n3_; clear n0_ n1_ n2_ n3_; (try clear hb); (try clear hb2); (try clear hk); (try clear hi); have hcz104_0 : w103.cell? ⟨gb520, 0, none⟩ = some (.int .i64 t515) := (blk_cell BK520.out 0).trans rfl; have hcz104_1 : w103.cell? ⟨gb520, 1, none⟩ = some (.int .i64 t516) := (blk_cell BK520.out 1).trans rfl; have hcz104_2 : w103.cell? ⟨gb520, 2, none⟩ = some (.int .i64 t517) := (blk_cell BK520.out 2).trans rfl; have hcz104_3 : w103.cell? ⟨gb520, 3, none⟩ = some (.int .i64 t518) := (blk_cell BK520.out 3).trans rfl; have hfz104_0 := blk_frozen BK520.out 0; have hfz104_1 := blk_frozen BK520.out 1; have hfz104_2 := blk_frozen BK520.out 2; have hfz104_3 := blk_frozen BK520.out 3))
     go_ret
     exact ⟨zr28, zr22⟩
end Go.Proofs.YtlmfoblgheepoaaGreatDoor.Pl
end
section
namespace Go.Proofs.YtlmfoblgheepoaaGreatDoor.Pure
open Go.RowKit Go.Proofs.YtlmfoblgheepoaaGreatDoorW.PrintWords Go.Proofs.YtlmfoblgheepoaaGreatDoorW.PrintLast Go.Proofs.YtlmfoblgheepoaaGreatDoorW.PrintMore Go.Proofs.YtlmfoblgheepoaaGreatDoor.Pl
set_option linter.unusedVariables false
set_option linter.unusedSimpArgs false
theorem dg_of {b : UInt8} (h : isD b = true) : dg (b.toNat - 48) = b := by
  have := (isD_iff b).mp h
  apply UInt8.toNat_inj.mp
  rw [dg_toNat]; omega
theorem dg_mod (n : Nat) : dg (n % 10) = dg n := by unfold dg; simp
theorem eightK_val : ∀ (k : Nat) (l : D), l.length = k → digs l = true → eightK k (val l) = l
  | 0, l, h, _ => by
    have : l = [] := List.eq_nil_of_length_eq_zero h
    subst this; rfl
  | k + 1, l, h, hd => by
    obtain ⟨a, b, rfl⟩ : ∃ a b, l = a ++ [b] := by
      have hne : l ≠ [] := by intro e; rw [e] at h; cases h
      exact ⟨l.dropLast, l.getLast hne, (List.dropLast_concat_getLast hne).symm⟩
    have hl : a.length = k := by simpa using h
    have hd' : digs a = true ∧ isD b = true := by rw [digs_append] at hd; simpa [digs] using hd
    have hb := (isD_iff b).mp hd'.2
    rw [eightK, val_append, val_one]
    have e1 : (val a * 10 ^ [b].length + (b.toNat - 48)) / 10 = val a := by simp; omega
    have e2 : dg (val a * 10 ^ [b].length + (b.toNat - 48)) = b := by
      rw [← dg_mod]
      have : (val a * 10 ^ [b].length + (b.toNat - 48)) % 10 = b.toNat - 48 := by simp; omega
      rw [this]
      exact dg_of hd'.2
    rw [e1, e2, eightK_val k a hl hd'.1]
theorem digitVal_of {b : UInt8} (h : isD b = true) : Lib.digitVal b = some (b.toNat - 48) := by
  have := (isD_iff b).mp h
  unfold Lib.digitVal
  rw [if_pos this]
theorem decFrom_val : ∀ (l : D) (a : Nat), digs l = true → Lib.decFrom a l = some (valF a l)
  | [], a, _ => rfl
  | b :: r, a, h => by
    have hb : isD b = true ∧ digs r = true := by simpa [digs] using h
    rw [Lib.decFrom, digitVal_of hb.1, valF_cons]
    exact decFrom_val r _ hb.2
theorem atoi_val (l : D) (h : digs l = true) (h0 : l ≠ []) : Lib.atoi l = some (val l : Int) := by
  cases l with
  | nil => exact absurd rfl h0
  | cons b r =>
    have hb : isD b = true ∧ digs r = true := by simpa [digs] using h
    have hb' := (isD_iff b).mp hb.1
    have n1 : (b == 45) = false := by
      rw [beq_eq_false_iff_ne]; intro e; subst e; simp at hb'
    have n2 : (b == 43) = false := by
      rw [beq_eq_false_iff_ne]; intro e; subst e; simp at hb'
    rw [Lib.atoi, n1, n2]
    simp only [Bool.false_eq_true, if_false]
    rw [Lib.decNat]
    simp only [List.isEmpty_cons, Bool.false_eq_true, if_false]
    rw [decFrom_val _ _ h]
    rfl
theorem atoi_eq (s : ByteArray) (h : s.size ≤ 18) (hd : digs s.data.toList = true) (h0 : 1 ≤ s.size) : strconv_Atoi.f s = some ((val s.data.toList : Int), none) := by
  unfold strconv_Atoi.f
  rw [if_pos h, atoi_val _ hd]
  · rfl
  · intro e; rw [Lib.size_eq, e] at h0; simp at h0
end Go.Proofs.YtlmfoblgheepoaaGreatDoor.Pure
end
section
namespace Go.Proofs.YtlmfoblgheepoaaGreatDoor.Pure
open Go.RowKit Go.Proofs.YtlmfoblgheepoaaGreatDoorW.PrintWords Go.Proofs.YtlmfoblgheepoaaGreatDoorW.PrintLast Go.Proofs.YtlmfoblgheepoaaGreatDoorW.PrintMore Go.Proofs.YtlmfoblgheepoaaGreatDoor.Pl
set_option linter.unusedVariables false
set_option linter.unusedSimpArgs false
theorem b_of (s : ByteArray) : b s.data.toList = s := ba_ext (by rw [b_data])
theorem b_append (x y : D) : b x ++ b y = b (x ++ y) := ba_ext (by simp [b_data])
end Go.Proofs.YtlmfoblgheepoaaGreatDoor.Pure
end
section
namespace Go.Proofs.YtlmfoblgheepoaaGreatDoor.Pure
open Go.RowKit Go.Proofs.YtlmfoblgheepoaaGreatDoorW.PrintWords Go.Proofs.YtlmfoblgheepoaaGreatDoorW.PrintLast Go.Proofs.YtlmfoblgheepoaaGreatDoorW.PrintMore Go.Proofs.YtlmfoblgheepoaaGreatDoor.Pl
set_option linter.unusedVariables false
set_option linter.unusedSimpArgs false
structure EnOk (e : En) : Prop where
  kd : digs e.key = true
  sd : digs e.st = true
  k1 : 1 ≤ e.key.length
  s1 : 1 ≤ e.st.length
  kl : (e.key.length : Int) < e.len
  l8 : e.len ≤ 8
  tot : (e.st.length : Int) + (e.len - e.key.length) = 8
  key5 : e.key.length ≤ 5
theorem digs_rep (n : Nat) : digs (List.replicate n 48) = true := by
  unfold digs; rw [List.all_replicate]; simp; right; decide
theorem eOld_ok {c : S29} (h : One c) (i : Nat) : EnOk (eOld i c) := by
  have a1 := h.o1; have a2 := h.o4; have a3 := h.n1; have a4 := h.n5; have a5 := h.l1; have a6 := h.l7; have a7 := h.rm
  refine ⟨h.od, ?_, h.o1, ?_, h.l1, ?_, ?_, ?_⟩
  · simp only [eOld]; rw [digs_append, h.nd, digs_rep]; rfl
  · simp only [eOld]; rw [List.length_append]; omega
  · simp only [eOld]; omega
  · simp only [eOld, zs]; rw [List.length_append, List.length_replicate]; omega
  · simp only [eOld]; omega
theorem eNew_ok {c : S29} (h : One c) (i : Nat) : EnOk (eNew i c) := by
  have a1 := h.o1; have a2 := h.o4; have a3 := h.n1; have a4 := h.n5; have a5 := h.l1; have a6 := h.l7; have a7 := h.rm
  refine ⟨h.nd, h.nd, h.n1, h.n1, ?_, ?_, ?_, ?_⟩ <;> simp only [eNew] <;> omega
theorem es_ok {c : S29} (h : One c) {ph : Int} {i : Nat} {e : En} (he : e ∈ es ph i c) : EnOk e := by
  unfold es at he
  rcases List.mem_append.mp he with he | he
  · split at he
    · rw [List.mem_singleton.mp he]; exact eOld_ok h i
    · cases he
  · split at he
    · rw [List.mem_singleton.mp he]; exact eNew_ok h i
    · cases he
theorem ents_ok {ph : Int} : ∀ {p : List S29} {i : Nat} {e : En}, (∀ c ∈ p, One c) → e ∈ ents ph p i → EnOk e
  | [], _, _, _, he => by cases he
  | c :: r, i, e, hp, he => by
    rcases List.mem_append.mp he with he | he
    · exact es_ok (hp c List.mem_cons_self) he
    · exact ents_ok (fun x hx => hp x (List.mem_cons_of_mem _ hx)) he
def hitS (e : En) (d : D) : Int × Int × Int × Int × Int :=
  if (d.length : Int) < e.len then (1, 0, 0, 0, 0) else (2, (val (e.st ++ (d.drop e.key.length).take (e.len.toNat - e.key.length)) : Int), e.idx, e.len, 0)
def rE (l : List En) (d : D) : Int × Int × Int × Int × Int :=
  match l.find? (fun e => e.key.isPrefixOf d) with
  | some e => hitS e d
  | none => if l.any (fun e => d.isPrefixOf e.key) = true then (1, 0, 0, 0, 0) else (0, 0, 0, 0, 0)
def rS (p : List S29) (d : D) (ph : Int) : Int × Int × Int × Int × Int := rE (ents ph p 0) d
def toB (e : En) : ByteArray × Ent := (b e.key, (e.idx, e.len, b e.st))
theorem entGo_eq (ph : Int) : ∀ (p : List S29) (i : Nat) (L : List (ByteArray × Ent)), (∀ c ∈ p, One c) → entGo ph p i L = some (((ents ph p i).map toB).reverse ++ L)
  | [], i, L, _ => rfl
  | c :: r, i, L, h => by
    have hc := h c List.mem_cons_self
    have e0 : c.f0.size = (co c).length := Lib.size_eq _
    have e1 : c.f1.size = (cn c).length := Lib.size_eq _
    have a1 := hc.o1; have a2 := hc.o4; have a3 := hc.n1; have a4 := hc.n5; have a5 := hc.l1; have a6 := hc.l7; have a7 := hc.rm
    rw [entGo, ents]
    have hst : entStep ph c i L = some (((es ph i c).map toB).reverse ++ L) := by
      unfold entStep
      rw [if_pos ⟨by omega, by omega⟩]
      unfold es
      have bo : b (co c) = c.f0 := b_of _
      have bn : b (cn c) = c.f1 := b_of _
      by_cases h3 : ph = 3
      · by_cases h1 : ph = 1
        · omega
        · simp [h3, h1, toB, eNew, bn]
      · have hz : strings_Repeat.f (⟨#[48]⟩ : ByteArray) (wrap64 (wrap64 (8 - (c.f1.size : Int)) - (c.f2 - ((co c).length : Int)))) = some (b (List.replicate (zs c) 48)) := by
          rw [e1, w64 (n := 8 - ((cn c).length : Int)) (by omega) (by omega), w64 (by omega) (by omega)]
          unfold strings_Repeat.f
          have hone : (⟨#[48]⟩ : ByteArray).size = 1 := rfl
          rw [if_pos ⟨by omega, by omega, by rw [hone]; omega⟩]
          have := Lib.repeatL_replicate (48 : UInt8) 1 (zs c)
          simp only [Nat.mul_one] at this
          have e' : Lib.repeatL (⟨#[48]⟩ : ByteArray).data.toList (8 - ((cn c).length : Int) - (c.f2 - ((co c).length : Int))).toNat = List.replicate (zs c) 48 := this
          rw [e']; rfl
        have hsz : c.f1.size + (b (List.replicate (zs c) 48)).size ≤ 9223372036854775807 := by
          rw [b_size, List.length_replicate]; unfold zs; omega
        have hb : c.f1 ++ b (List.replicate (zs c) 48) = b (cn c ++ List.replicate (zs c) 48) := by rw [← bn, b_append]
        have hr : plan_room.f c.f0 c.f1 c.f2 = some (c.f2 - ((co c).length : Int)) := by unfold plan_room.f; rw [e0, w64 (by omega) (by omega)]
        by_cases h1 : ph = 1
        · simp only [ne_eq, h3, h1, not_false_eq_true, if_true, hr, Option.bind_some, hz, hsz, hb]
          simp [toB, eOld, bo]
        · simp only [ne_eq, h3, h1, not_false_eq_true, if_true, hr, Option.bind_some, hz, hsz, hb]
          simp [toB, eOld, eNew, bo, bn]
    rw [hst, Option.bind_some, entGo_eq ph r (i + 1) _ (fun x hx => h x (List.mem_cons_of_mem _ hx))]
    simp
theorem b_inj {x y : D} (h : b x = b y) : x = y := by rw [← b_data x, h, b_data]
theorem look_some {l : List En} (h : l.Pairwise (fun e f => apt e.key f.key = true)) {e : En} (he : e ∈ l) : lookE ((l.map toB).reverse ++ []) (b e.key) = some (e.idx, e.len, b e.st) := by
  unfold lookE
  have hm : toB e ∈ ((l.map toB).reverse ++ []) := by simp; exact ⟨e, he, rfl⟩
  cases hf : (((l.map toB).reverse ++ []).find? (fun p : ByteArray × Ent => decide (p.1 = b e.key))) with
  | none =>
    have := List.find?_eq_none.mp hf (toB e) hm
    simp [toB] at this
  | some y =>
    have h1 := List.find?_some hf
    have h2 := List.mem_of_find?_eq_some hf
    simp at h2
    obtain ⟨f, hf', rfl⟩ := h2
    simp [toB] at h1
    have := b_inj (of_decide_eq_true h1)
    rcases pair_eq h he hf' with h3 | h3
    · rw [← h3]; rfl
    · rw [apt_iff, this] at h3
      exact absurd (List.prefix_refl _) h3.1
theorem look_none {l : List En} {s : D} (h : ∀ e ∈ l, e.key ≠ s) : lookE ((l.map toB).reverse ++ []) (b s) = none := by
  unfold lookE
  rw [Option.map_eq_none_iff, List.find?_eq_none]
  intro x hx
  simp at hx
  obtain ⟨f, hf, rfl⟩ := hx
  simp [toB]
  exact decide_eq_false (fun e => h f hf (b_inj e))
theorem ext_take (d : D) (k : Nat) : (b d).extract 0 k = b (d.take k) := by
  apply ba_ext; rw [Lib.extract_data, b_data, b_data]; simp
theorem loop_none {l : List En} {d : D} (h : ∀ e ∈ l, ¬ e.key <+: d) : ∀ m k, readLoop ((l.map toB).reverse ++ []) (b d) m k = some none
  | 0, k => rfl
  | m + 1, k => by
    rw [readLoop, ext_take, look_none (fun e he hk => h e he (by rw [hk]; exact List.take_prefix _ _))]
    exact loop_none h m (k + 1)
theorem loop_hit {l : List En} (h : l.Pairwise (fun e f => apt e.key f.key = true)) {d : D} (hd : digs d = true) (hl : d.length ≤ 16) {e : En} (he : e ∈ l) (ho : EnOk e) (hp : e.key <+: d) : ∀ m k, k ≤ e.key.length → e.key.length < m + k →
    readLoop ((l.map toB).reverse ++ []) (b d) m k = some (some ((hitS e d).1, (hitS e d).2.1, (hitS e d).2.2.1, (hitS e d).2.2.2.1))
  | 0, k, h1, h2 => by omega
  | m + 1, k, h1, h2 => by
    rw [readLoop, ext_take]
    have hkl := hp.length_le
    by_cases hk : k = e.key.length
    · have : d.take k = e.key := by rw [hk]; exact (List.prefix_iff_eq_take.mp hp).symm
      rw [this, look_some h he]
      simp only [b_size]
      have b1 := ho.kl; have b2 := ho.l8; have b3 := ho.tot; have b4 := ho.key5; have b5 := ho.s1
      unfold hitS
      by_cases hs : (d.length : Int) < e.len
      · simp only [hs, if_true]
      · simp only [hs, if_false]
        have ex : ((b d).extract k e.len.toNat).data.toList = (d.drop e.key.length).take (e.len.toNat - e.key.length) := by rw [Lib.extract_data, b_data, hk]
        have exl : ((b d).extract k e.len.toNat).size = e.len.toNat - e.key.length := by rw [Lib.size_eq, ex, List.length_take, List.length_drop]; omega
        have eb : (b e.st ++ (b d).extract k e.len.toNat) = b (e.st ++ (d.drop e.key.length).take (e.len.toNat - e.key.length)) := by
          apply ba_ext; simp only [ByteArray.data_append, Array.toList_append, ex, b_data]
        rw [if_pos ⟨by omega, by omega, by omega⟩, eb]
        have hdig : digs (e.st ++ (d.drop e.key.length).take (e.len.toNat - e.key.length)) = true := by
          rw [digs_append, ho.sd, Bool.true_and]
          unfold digs at hd ⊢
          rw [List.all_eq_true] at hd ⊢
          exact fun x hx => hd x (List.mem_of_mem_drop (List.mem_of_mem_take hx))
        have hlen : (e.st ++ (d.drop e.key.length).take (e.len.toNat - e.key.length)).length = 8 := by rw [List.length_append, List.length_take, List.length_drop]; omega
        rw [atoi_eq _ (by rw [b_size, hlen]; omega) (by rw [b_data]; exact hdig) (by rw [b_size, hlen]; omega)]
        simp only [Option.bind_some, b_data]
    · have : ∀ f ∈ l, f.key ≠ d.take k := by
        intro f hf hkey
        have hfp : f.key <+: d := by rw [hkey]; exact List.take_prefix _ _
        have := pair_hit h he hf hp hfp
        rw [← this] at hkey
        have : e.key.length = k := by rw [hkey, List.length_take]; omega
        omega
      rw [look_none this]
      exact loop_hit h hd hl he ho hp m (k + 1) (by omega) (by omega)
theorem any_eq (l : List En) (d : D) : (((l.map toB).reverse ++ []).any (fun p => Lib.hasPrefix p.1.data.toList (b d).data.toList)) = l.any (fun e => d.isPrefixOf e.key) := by
  unfold Lib.hasPrefix
  simp only [List.append_nil, List.any_reverse, List.any_map, b_data]
  have : ((fun p : ByteArray × Ent => d.isPrefixOf p.1.data.toList) ∘ toB) = (fun e => d.isPrefixOf e.key) := by funext e; simp [toB, b_data]
  simp [Function.comp_def, toB, b_data]
theorem hit5 (e : En) (d : D) : ((hitS e d).1, (hitS e d).2.1, (hitS e d).2.2.1, (hitS e d).2.2.2.1, (0 : Int)) = hitS e d := by
  unfold hitS; split <;> rfl
theorem rest_eq (p : List S29) (hv : vp p = true) (ph : Int) (d : D) (hd : digs d = true) (hl : d.length ≤ 16) : plan_ReadRest p (b d) ph = some (rS p d ph) := by
  have h20 := vp_len hv
  have ho : ∀ c ∈ p, One c := fun c hc => vp_one hv hc
  have hpair := ents_pair (ph := ph) (i := 0) (vp_pair hv) ho
  unfold plan_ReadRest
  rw [if_pos ⟨by omega, by rw [b_size]; omega⟩, entGo_eq ph p 0 [] ho, Option.bind_some]
  unfold rS rE
  cases hf : (ents ph p 0).find? (fun e => e.key.isPrefixOf d) with
  | none =>
    have hn : ∀ e ∈ ents ph p 0, ¬ e.key <+: d := by
      intro e he hp
      have := List.find?_eq_none.mp hf e he
      rw [List.isPrefixOf_iff_prefix] at this
      exact this hp
    rw [loop_none hn, Option.bind_some]
    simp only [readEnd, any_eq]
  | some e =>
    have h1 := List.find?_some hf
    have h2 := List.mem_of_find?_eq_some hf
    rw [List.isPrefixOf_iff_prefix] at h1
    have hk := h1.length_le
    rw [loop_hit hpair hd hl h2 (ents_ok ho h2) h1 _ 0 (by omega) (by rw [b_size]; omega), Option.bind_some]
    simp only [readEnd, hit5]
theorem read_ev (p : List S29) (hv : vp p = true) (ph : Int) (hp : okPh ph = true) (d : D) (hd : digs d = true) (hl : d.length ≤ 16) : Ev (fun k => plan_Read.f k p (b d) ph) (rS p d ph) := by
  have h20 := vp_len hv
  unfold plan_Read.f
  refine Ev.bind (valid_ev p (by omega) (vp_small hv)) ?_
  have h1 : ¬ (16 : Int) < (d.length : Int) := by omega
  simp only [hv, if_true, isDigits_eq (b d) (by rw [b_size]; omega), b_data, hd, Option.bind_some, b_size, h1, if_false, isPhase_eq, hp, rest_eq p hv ph d hd hl]
  exact Ev.now _
end Go.Proofs.YtlmfoblgheepoaaGreatDoor.Pure
end
section
namespace Go.Proofs.YtlmfoblgheepoaaGreatDoor.Pure
open Go.RowKit Go.Proofs.YtlmfoblgheepoaaGreatDoorW.PrintWords Go.Proofs.YtlmfoblgheepoaaGreatDoorW.PrintLast Go.Proofs.YtlmfoblgheepoaaGreatDoorW.PrintMore Go.Proofs.YtlmfoblgheepoaaGreatDoor.Pl
set_option linter.unusedVariables false
set_option linter.unusedSimpArgs false
def Ints1 (l : List Int) : Prop := ∀ x ∈ l, J64 x
theorem text_from (l : List Int) (hl : Ints1 l) : ∀ m i : Nat, m + i = l.length → ∀ s : D, digs s = true → s.length = i → i ≤ 17 → ∃ t : D, digs t = true ∧ t.length = min 17 l.length ∧ Ev (fun k => dialtonelaw12_text.l0 k l (b s) (i : Int)) (b t) := by
  intro m
  induction m with
  | zero =>
    intro i hi s hd hs h17
    refine ⟨s, hd, by omega, Ev.step (fun k => by rw [dialtonelaw12_text.l0]) ?_⟩
    have h1 : ¬ ((i : Int) < l.length) := by omega
    simp only [h1, if_false]
    exact Ev.now _
  | succ m ih =>
    intro i hi s hd hs h17
    have h1 : ((i : Int) < l.length) := by omega
    have hil : i < l.length := by omega
    by_cases h : i < 17
    · have h2 : ((i : Int) < 17) := by omega
      have h3 : (0 : Int) ≤ i := by omega
      have hr : rd l (i : Int) = l[i] := by unfold rd; simp [hil]
      obtain ⟨r, lr, er⟩ := pick_lt l[i] (hl _ (List.getElem_mem hil)) 10 (by decide)
      have er' : dialtonelaw12_pick.f l[i] 10 = some (r : Int) := er
      have hb : strOfNums [wrap64 (48 + (r : Int)) % 256] = b [dg r] := by
        have := one_dig r
        rw [Int.tmod_eq_emod_of_nonneg (by omega)] at this
        have e : (r : Int) % 10 = r := by omega
        rw [e] at this
        exact this
      obtain ⟨t, ht1, ht2, ht3⟩ := ih (i + 1) (by omega) (s ++ [dg r]) (by rw [digs_append, hd]; simp [digs, dg_isD]) (by simp; omega) (by omega)
      refine ⟨t, ht1, ht2, Ev.step (fun k => by rw [dialtonelaw12_text.l0]) ?_⟩
      have h4 : (b s).size + (b [dg r]).size ≤ 9223372036854775807 := by rw [b_size, b_size]; simp; omega
      simp only [h1, h2, h3, if_true, hr, er', Option.bind_some, hb, h4, b_append, wi i (by omega)]
      exact ht3
    · have h2 : ¬ ((i : Int) < 17) := by omega
      refine ⟨s, hd, by omega, Ev.step (fun k => by rw [dialtonelaw12_text.l0]) ?_⟩
      simp only [h1, h2, if_true, if_false]
      exact Ev.now _
theorem text_ev (l : List Int) (hl : Ints1 l) : ∃ t : D, digs t = true ∧ t.length = min 17 l.length ∧ Ev (fun k => dialtonelaw12_text.f k l) (b t) := by
  obtain ⟨t, h1, h2, h3⟩ := text_from l hl l.length 0 (by omega) [] rfl rfl (by omega)
  exact ⟨t, h1, h2, by simpa [dialtonelaw12_text.f, b] using h3⟩
theorem text_take (l : List Int) (hl : Ints1 l) (n : Nat) (hn : n ≤ 17) (hlen : l.length ≤ 9223372036854775807) : ∃ t : D, digs t = true ∧ t.length ≤ n ∧ (0 : Int) ≤ mn (l.length : Int) n ∧ mn (l.length : Int) n ≤ l.length ∧ Ev (fun k => dialtonelaw12_text.f k (l.take (mn (l.length : Int) n).toNat)) (b t) := by
  obtain ⟨t, h1, h2, h3⟩ := text_ev (l.take (mn (l.length : Int) n).toNat) (fun x hx => hl x (List.mem_of_mem_take hx))
  have hm : 0 ≤ mn (l.length : Int) n ∧ mn (l.length : Int) n ≤ l.length ∧ mn (l.length : Int) n ≤ n := by unfold mn; split <;> omega
  refine ⟨t, h1, ?_, hm.1, hm.2.1, h3⟩
  rw [h2, List.length_take]; omega
end Go.Proofs.YtlmfoblgheepoaaGreatDoor.Pure
end
section
namespace Go.Proofs.YtlmfoblgheepoaaGreatDoor.Pure
open Go.RowKit Go.Proofs.YtlmfoblgheepoaaGreatDoorW.PrintWords Go.Proofs.YtlmfoblgheepoaaGreatDoorW.PrintLast Go.Proofs.YtlmfoblgheepoaaGreatDoorW.PrintMore Go.Proofs.YtlmfoblgheepoaaGreatDoor.Pl
set_option linter.unusedVariables false
set_option linter.unusedSimpArgs false
theorem rE_hit {l : List En} (h : l.Pairwise (fun e f => apt e.key f.key = true)) {e : En} (he : e ∈ l) {d : D} (hp : e.key <+: d) : rE l d = hitS e d := by
  unfold rE
  cases hf : l.find? (fun e => e.key.isPrefixOf d) with
  | none =>
    have := List.find?_eq_none.mp hf e he
    rw [List.isPrefixOf_iff_prefix] at this
    exact absurd hp this
  | some f =>
    have h1 := List.find?_some hf
    have h2 := List.mem_of_find?_eq_some hf
    rw [List.isPrefixOf_iff_prefix] at h1
    rw [pair_hit h he h2 hp h1]
theorem rE_miss {l : List En} {d : D} (hn : ∀ e ∈ l, ¬ e.key <+: d) : rE l d = if l.any (fun e => d.isPrefixOf e.key) = true then (1, 0, 0, 0, 0) else (0, 0, 0, 0, 0) := by
  unfold rE
  cases hf : l.find? (fun e => e.key.isPrefixOf d) with
  | none => rfl
  | some f =>
    have h1 := List.find?_some hf
    have h2 := List.mem_of_find?_eq_some hf
    rw [List.isPrefixOf_iff_prefix] at h1
    exact absurd h1 (hn f h2)
theorem rE_cases (l : List En) (d : D) : (∃ e ∈ l, e.key <+: d) ∨ (∀ e ∈ l, ¬ e.key <+: d) := by
  by_cases h : ∃ e ∈ l, e.key <+: d
  · exact .inl h
  · exact .inr (fun e he hp => h ⟨e, he, hp⟩)
theorem any_pre (l : List En) (d : D) : l.any (fun e => d.isPrefixOf e.key) = true ↔ ∃ e ∈ l, d <+: e.key := by
  rw [List.any_eq_true]
  constructor
  · rintro ⟨e, he, h⟩; exact ⟨e, he, List.isPrefixOf_iff_prefix.mp h⟩
  · rintro ⟨e, he, h⟩; exact ⟨e, he, List.isPrefixOf_iff_prefix.mpr h⟩
theorem hit_more {e : En} {d : D} (h : (d.length : Int) < e.len) : hitS e d = (1, 0, 0, 0, 0) := by unfold hitS; rw [if_pos h]
theorem hit_num {e : En} {d : D} (h : ¬ (d.length : Int) < e.len) : hitS e d = (2, (val (e.st ++ (d.drop e.key.length).take (e.len.toNat - e.key.length)) : Int), e.idx, e.len, 0) := by unfold hitS; rw [if_neg h]
theorem rE_kind {l : List En} (h : l.Pairwise (fun e f => apt e.key f.key = true)) (d : D) :
    (rE l d = (0, 0, 0, 0, 0) ∧ (∀ e ∈ l, ¬ e.key <+: d) ∧ (∀ e ∈ l, ¬ d <+: e.key)) ∨ (rE l d = (1, 0, 0, 0, 0) ∧ ((∃ e ∈ l, e.key <+: d ∧ (d.length : Int) < e.len) ∨ ((∀ e ∈ l, ¬ e.key <+: d) ∧ ∃ e ∈ l, d <+: e.key))) ∨ (∃ e ∈ l, e.key <+: d ∧ ¬ (d.length : Int) < e.len ∧ rE l d = hitS e d) := by
  rcases rE_cases l d with ⟨e, he, hp⟩ | hn
  · have := rE_hit h he hp
    by_cases hl : (d.length : Int) < e.len
    · exact .inr (.inl ⟨by rw [this, hit_more hl], .inl ⟨e, he, hp, hl⟩⟩)
    · exact .inr (.inr ⟨e, he, hp, hl, this⟩)
  · have := rE_miss hn
    by_cases ha : l.any (fun e => d.isPrefixOf e.key) = true
    · exact .inr (.inl ⟨by rw [this, if_pos ha], .inr ⟨hn, (any_pre l d).mp ha⟩⟩)
    · refine .inl ⟨by rw [this, if_neg ha], hn, fun e he hp => ha ((any_pre l d).mpr ⟨e, he, hp⟩)⟩
theorem digs_take {s : D} (h : digs s = true) (n : Nat) : digs (s.take n) = true := by
  unfold digs at h ⊢; rw [List.all_eq_true] at h ⊢; exact fun x hx => h x (List.mem_of_mem_take hx)
theorem form_hit {p : List S29} (hv : vp p = true) {m : Nat} (hm : m ≤ 99999999) {ph : Int} {f : D} {e : En} (hF : Form p m ph f e) {ph' : Int} (h1 : ph = 1 → ph' ≠ 3) (h2 : ph ≠ 1 → ph' ≠ 1) (x : D) : rS p (f ++ x) ph' = (2, (m : Int), e.idx, (f.length : Int), 0) := by
  have he := hF.mem ph' h1 h2
  have hp : e.key <+: f ++ x := hF.pre.trans (List.prefix_append _ _)
  have hk := hF.pre.length_le
  have hl := hF.len
  unfold rS
  rw [rE_hit (ents_apt hv ph') he hp, hit_num (by rw [List.length_append]; omega)]
  have e1 : ((f ++ x).drop e.key.length).take (e.len.toNat - e.key.length) = f.drop e.key.length := by
    rw [List.drop_append_of_le_length hk, List.take_append_of_le_length (by rw [List.length_drop]; omega), List.take_of_length_le (by rw [List.length_drop]; omega)]
  have e2 : m % 10 ^ 8 = m := Nat.mod_eq_of_lt (by omega)
  rw [e1, hF.num, val_eightK, e2, hl]
theorem form_hit0 {p : List S29} (hv : vp p = true) {m : Nat} (hm : m ≤ 99999999) {ph : Int} {f : D} {e : En} (hF : Form p m ph f e) {ph' : Int} (h1 : ph = 1 → ph' ≠ 3) (h2 : ph ≠ 1 → ph' ≠ 1) : rS p f ph' = (2, (m : Int), e.idx, (f.length : Int), 0) := by
  have := form_hit hv hm hF h1 h2 []
  rwa [List.append_nil] at this
theorem old_wC {c : S29} (hc : One c) (x : D) : wC c (cn c ++ List.replicate (zs c) 48 ++ x) 1 = (co c ++ x, 0) := by
  have a1 := hc.o1; have a2 := hc.o4; have a3 := hc.n1; have a4 := hc.n5; have a5 := hc.l1; have a6 := hc.l7; have a7 := hc.rm
  have hz : zs c = cutOf c - (cn c).length := by unfold zs cutOf; omega
  have hcl : (cn c ++ List.replicate (zs c) 48).length = cutOf c := by rw [List.length_append, List.length_replicate]; unfold zs cutOf; omega
  have hmid : ((cn c ++ List.replicate (zs c) 48 ++ x).drop (cn c).length).take (cutOf c - (cn c).length) = List.replicate (zs c) 48 := by
    rw [List.append_assoc, List.drop_left, ← hz]
    exact List.take_left' (by simp)
  unfold wC
  rw [if_pos rfl, if_pos (by rw [hmid]; unfold z48; rw [List.all_replicate]; simp), ← hcl, List.drop_left]
theorem entry_form {p : List S29} (hv : vp p = true) {ph : Int} {e : En} (he : e ∈ ents ph p 0) {x : D} (hx : digs x = true) (hl : (e.key.length + x.length : Int) = e.len) :
    val (e.st ++ x) ≤ 99999999 ∧ ∃ f, wS p (val (e.st ++ x)) 3 = (f, 0) ∧ ((ph ≠ 1 ∧ e.key ++ x = f) ∨ (ph ≠ 3 ∧ wS p (val (e.st ++ x)) 1 = (e.key ++ x, 0))) := by
  have ho := ents_ok (fun c hc => vp_one hv hc) he
  have b1 := ho.kl; have b2 := ho.l8; have b3 := ho.tot; have b4 := ho.key5; have b5 := ho.s1
  have hd : digs (e.st ++ x) = true := by rw [digs_append, ho.sd, hx]; rfl
  have h8 : (e.st ++ x).length = 8 := by rw [List.length_append]; omega
  have hlt := val_lt _ hd
  rw [h8] at hlt
  have hs := eightK_val 8 _ h8 hd
  refine ⟨by omega, ?_⟩
  obtain ⟨i, hi, h⟩ := ents_mem.mp he
  have hc := vp_one hv (List.getElem_mem hi)
  have a1 := hc.o1; have a2 := hc.o4; have a3 := hc.n1; have a4 := hc.n5; have a5 := hc.l1; have a6 := hc.l7; have a7 := hc.rm
  have hpre : cn p[i] <+: e.st ++ x := by
    rcases h with ⟨_, rfl⟩ | ⟨_, rfl⟩
    · simp only [eOld, List.append_assoc]; exact List.prefix_append _ _
    · simp only [eNew]; exact List.prefix_append _ _
  have hfind : p.find? (fun c => (cn c).isPrefixOf (eightK 8 (val (e.st ++ x)))) = some p[i] := by rw [hs]; exact find_code hv hi hpre
  refine ⟨e.st ++ x, by rw [wS_some hfind, hs]; unfold wC; rw [if_neg (by decide)], ?_⟩
  rcases h with ⟨h3, rfl⟩ | ⟨h1, rfl⟩
  · right
    refine ⟨h3, ?_⟩
    rw [wS_some hfind, hs]
    exact old_wC hc x
  · left
    exact ⟨h1, by simp only [eNew]⟩
end Go.Proofs.YtlmfoblgheepoaaGreatDoor.Pure
end
section
namespace Go.Proofs.YtlmfoblgheepoaaGreatDoor.Pure
open Go.RowKit Go.Proofs.YtlmfoblgheepoaaGreatDoorW.PrintWords Go.Proofs.YtlmfoblgheepoaaGreatDoorW.PrintLast Go.Proofs.YtlmfoblgheepoaaGreatDoorW.PrintMore Go.Proofs.YtlmfoblgheepoaaGreatDoor.Pl
set_option linter.unusedVariables false
set_option linter.unusedSimpArgs false
theorem wS_first {p : List S29} (hv : vp p = true) (m : Nat) (ph : Int) : digs (wS p m ph).1 = true ∧ (wS p m ph).1.length ≤ 8 := by
  rcases wS_form hv m ph with hW | ⟨f, e, hW, hF⟩
  · rw [hW]; exact ⟨rfl, by decide⟩
  · rw [hW]
    refine ⟨hF.dig, ?_⟩
    have := hF.len
    by_cases h : ph = 1
    · have := hF.old h; show f.length ≤ 8; omega
    · have := (hF.new h).1; show f.length ≤ 8; omega
theorem read_form {p : List S29} (hv : vp p = true) {ph : Int} (hph : okPh ph = true) {d : D} (dd : digs d = true) (dl : d.length ≤ 16) (h2 : (rS p d ph).1 = 2) :
    ∃ N used : Nat, N ≤ 99999999 ∧ (rS p d ph).2.1 = (N : Int) ∧ (rS p d ph).2.2.2.1 = (used : Int) ∧ used ≤ d.length ∧ ∃ f, wS p N 3 = (f, 0) ∧ ((ph ≠ 1 ∧ d.take used = f) ∨ (ph ≠ 3 ∧ wS p N 1 = (d.take used, 0))) := by
  rcases rE_kind (ents_apt hv ph) d with ⟨h, _⟩ | ⟨h, _⟩ | ⟨e, he, hp, hl, h⟩
  · unfold rS at h2; rw [h] at h2; exact absurd h2 (by decide)
  · unfold rS at h2; rw [h] at h2; exact absurd h2 (by decide)
  · have ho := ents_ok (fun c hc => vp_one hv hc) he
    have b1 := ho.kl; have b2 := ho.l8; have b3 := ho.tot; have b4 := ho.key5; have b5 := ho.s1
    have hk := hp.length_le
    have hx : digs ((d.drop e.key.length).take (e.len.toNat - e.key.length)) = true := digs_take (digs_drop dd _) _
    have hxl : (e.key.length + ((d.drop e.key.length).take (e.len.toNat - e.key.length)).length : Int) = e.len := by rw [List.length_take, List.length_drop]; omega
    obtain ⟨hN, f, hf, hc⟩ := entry_form hv he hx hxl
    have htk : d.take e.len.toNat = e.key ++ (d.drop e.key.length).take (e.len.toNat - e.key.length) := by
      have h1 : d.take e.key.length = e.key := (List.prefix_iff_eq_take.mp hp).symm
      have h2 : e.len.toNat = e.key.length + (e.len.toNat - e.key.length) := by omega
      calc d.take e.len.toNat = d.take (e.key.length + (e.len.toNat - e.key.length)) := by rw [← h2]
        _ = d.take e.key.length ++ (d.drop e.key.length).take (e.len.toNat - e.key.length) := List.take_add
        _ = _ := by rw [h1]
    refine ⟨_, e.len.toNat, hN, ?_, ?_, by omega, f, hf, ?_⟩
    · unfold rS; rw [h, hit_num hl]
    · unfold rS; rw [h, hit_num hl]; show e.len = _; omega
    · rw [htk]; exact hc
end Go.Proofs.YtlmfoblgheepoaaGreatDoor.Pure
end
