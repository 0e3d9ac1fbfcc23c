/- Di: part 3 of the proof that the law's row holds: the printed walk of the program's functions, the plain law, the row. -/
import Derived.Test.YtlmfoblgheepoaaGreatDoorProg
import Derived.Below
import Derived.Deep.Draws
import Derived.Deep.AppendLies
import Derived.Maps.AppendAt
import Derived.OwnWalk
import Derived.Laws.BytesArg
import Derived.Laws.MakeOwn
import Derived.Laws.OwnMore
import Derived.Deep.OwnRows
import Derived.Tactics
import Derived.Lib.ConvBytes
import Derived.Laws.Slices
import Derived.WalkKit
import Derived.KernelRfl
import Derived.RowKit3
import Derived.Deep.LoopGhost
import Derived.Deep.QuietTactic
import Derived.BigQuiet
import Derived.WideLaws
import Derived.Deep.DeepCutAuto
import Derived.Deep.CutBlock
import Derived.Deep.RegionHeld3
import Derived.Laws.Rows
import Derived.Lib.AppendStr
import Derived.ArgAppend
import Derived.Laws.IdiomCopy
import Derived.OrdersHeld
import Derived.Laws.BitsLemmas
import Derived.RowKit
import Derived.Sort.KeysCollected
import Derived.WalkSpells
import Derived.Test.YtlmfoblgheepoaaGreatDoorQDi0
import Derived.Test.YtlmfoblgheepoaaGreatDoorQDi1
namespace Go.Proofs.YtlmfoblgheepoaaGreatDoor.Z
theorem zr5 {p : Prop} (h : p := by first | rfl | (simp [errW_none, errW_some] <;> rfl) | (simp [*, errW_none, errW_some] <;> rfl)) : p := h
theorem zr8 {p : Prop} (h : p := by (with_reducible repeat (first | apply Kd.R_alloc | apply Kd.R_drewN | apply Kd.R_drew)); exact HO472.out) : p := h
theorem zr10 {p : Prop} (h : p := by have := HK1.out; have := HK2.out; first | omega | exact Nat.le_refl _) : p := h
theorem zr11 {p : Prop} (h : p := by have := HK1.out; have := HK2.out; have := HJ4.out; first | omega | exact Nat.le_refl _) : p := h
theorem zr12 {p : Prop} (h : p := by (with_reducible repeat (first | refine blk_drewN ?_ _ | refine blk_drew ?_ | refine blk_alloc ?_ _)); refine blk_put (cs := #[.int .i64 t473, .int .i64 t474, .int .i64 t475, .int .i64 0]) ?_ 3 _ rfl; (with_reducible repeat (first | refine blk_drewN ?_ _ | refine blk_drew ?_ | refine blk_alloc ?_ _)); refine blk_put (cs := #[.int .i64 t473, .int .i64 t474, .int .i64 0, .int .i64 0]) ?_ 2 _ rfl; (with_reducible repeat (first | refine blk_drewN ?_ _ | refine blk_drew ?_ | refine blk_alloc ?_ _)); refine blk_put (cs := #[.int .i64 t473, .int .i64 0, .int .i64 0, .int .i64 0]) ?_ 1 _ rfl; (with_reducible repeat (first | refine blk_drewN ?_ _ | refine blk_drew ?_ | refine blk_alloc ?_ _)); refine blk_put (cs := #[.int .i64 0, .int .i64 0, .int .i64 0, .int .i64 0]) ?_ 0 _ rfl; (with_reducible repeat (first | refine blk_drewN ?_ _ | refine blk_drew ?_ | refine blk_alloc ?_ _)); exact BK478.out) : p := h
theorem zr13 {p : Prop} (h : p := by repeat (first | (with_reducible first | exact HB.out | apply below_alloc | apply pw_below_drewN | apply below_drew1 | refine below_set ?_ GE478.out) | exact HB.out)) : p := h
theorem zr14 {p : Prop} (h : p := by have := HK1.out; have := HK2.out; have := HJ4.out; have := HJ9.out; omega) : p := h
theorem zr16 {p : Prop} (h : p := by (with_reducible repeat (first | apply Kd.R_alloc | apply Kd.R_drewN | apply Kd.R_drew)); exact HO482.out) : p := h
theorem zr17 {p : Prop} (h : p := by repeat (first | exact (Kd.R_reads' HO482.out).2.2 | (with_reducible refine Kd.C_alloc ?_ _) | (with_reducible refine Kd.C_drewN ?_ _) | (with_reducible refine Kd.C_drew ?_))) : p := h
theorem zr18 {p : Prop} (h : p := by repeat (first | exact (Kd.R_reads' HO_12.out).2.2 | (with_reducible refine Kd.C_alloc ?_ _) | (with_reducible refine Kd.C_drewN ?_ _) | (with_reducible refine Kd.C_drew ?_))) : p := h
theorem zr19 {p : Prop} (h : p := by (with_reducible repeat (first | apply Kd.R_alloc | apply Kd.R_drewN | apply Kd.R_drew)); exact HO_12.out) : p := h
theorem zr20 {p : Prop} (h : p := by (with_reducible repeat (first | refine blk_drewN ?_ _ | refine blk_drew ?_ | refine blk_alloc ?_ _)); exact BK490.out) : p := h
theorem zr21 {p : Prop} (h : p := by repeat (first | (with_reducible first | exact HB.out | apply below_alloc | apply pw_below_drewN | apply below_drew1 | refine below_set ?_ GE490.out) | exact HB.out)) : p := h
theorem zr22 {p : Prop} (h : p := by rw [hg]; exact (below_size (by repeat (first | (with_reducible first | exact HB.out | apply below_alloc | apply pw_below_drewN | apply below_drew1 | refine below_set ?_ GE490.out) | exact HB.out)))) : p := h
theorem zr24 {p : Prop} (h : p := by (with_reducible repeat (first | refine blk_drewN ?_ _ | refine blk_drew ?_ | refine blk_alloc ?_ _)); exact BK496.out) : p := h
theorem zr25 {p : Prop} (h : p := by repeat (first | (with_reducible first | exact HB.out | apply below_alloc | apply pw_below_drewN | apply below_drew1 | refine below_set ?_ GE490.out | refine below_set ?_ GE496.out) | exact HB.out)) : p := h
theorem zr26 {p : Prop} (h : p := by rw [← hq_]; exact (by (with_reducible repeat (first | apply Kd.R_alloc | apply Kd.R_drewN | apply Kd.R_drew)); exact HO482.out)) : p := h
theorem zr27 {p : Prop} (h : p := by rw [← hq_]; exact (by repeat (first | (with_reducible first | exact HB.out | apply below_alloc | apply pw_below_drewN | apply below_drew1) | exact HB.out))) : p := h
theorem zr28 {p : Prop} (h : p := by first | rfl | (simp [errW_none, errW_some] <;> rfl) | (simp only [← hji13]; first | rfl | (simp [errW_none, errW_some] <;> rfl)) | (simp [*, errW_none, errW_some] <;> rfl)) : p := h
theorem zr29 {p : Prop} (h : p := by have := HK1.out; first | omega | exact Nat.le_refl _) : p := h
theorem zr30 {p : Prop} (h : p := by (with_reducible repeat (first | apply Kd.R_alloc | apply Kd.R_drewN | apply Kd.R_drew)); exact Kd.R_mono (Kd.R_far (p := ⟨gb496, 3, none⟩) (Kd.R_far (p := ⟨gb496, 2, none⟩) (Kd.R_far (p := ⟨gb496, 1, none⟩) (Kd.R_far (p := ⟨gb496, 0, none⟩) (Kd.R_types HO_12.out BK496.out (by decide)) (fun _ hk => hk.2) (.int .i64 t491)) (fun _ hk => hk.2) (.int .i64 t492)) (fun _ hk => hk.2) (.int .i64 t493)) (fun _ hk => hk.2) (.int .i64 t494)) (fun _ hk => trivial)) : p := h
theorem zr31 {p : Prop} (h : p := by (with_reducible repeat (first | refine blk_drewN ?_ _ | refine blk_drew ?_ | refine blk_alloc ?_ _)); refine blk_far ?_ NB490_496.out _; (with_reducible repeat (first | refine blk_drewN ?_ _ | refine blk_drew ?_ | refine blk_alloc ?_ _)); refine blk_far ?_ NB490_496.out _; (with_reducible repeat (first | refine blk_drewN ?_ _ | refine blk_drew ?_ | refine blk_alloc ?_ _)); refine blk_far ?_ NB490_496.out _; (with_reducible repeat (first | refine blk_drewN ?_ _ | refine blk_drew ?_ | refine blk_alloc ?_ _)); refine blk_far ?_ NB490_496.out _; (with_reducible repeat (first | refine blk_drewN ?_ _ | refine blk_drew ?_ | refine blk_alloc ?_ _)); exact BK490.out) : p := h
theorem zr32 {p : Prop} (h : p := by (with_reducible repeat (first | refine blk_drewN ?_ _ | refine blk_drew ?_ | refine blk_alloc ?_ _)); refine blk_put (cs := #[.int .i64 t491, .int .i64 t492, .int .i64 t493, .int .i64 0]) ?_ 3 _ rfl; (with_reducible repeat (first | refine blk_drewN ?_ _ | refine blk_drew ?_ | refine blk_alloc ?_ _)); refine blk_put (cs := #[.int .i64 t491, .int .i64 t492, .int .i64 0, .int .i64 0]) ?_ 2 _ rfl; (with_reducible repeat (first | refine blk_drewN ?_ _ | refine blk_drew ?_ | refine blk_alloc ?_ _)); refine blk_put (cs := #[.int .i64 t491, .int .i64 0, .int .i64 0, .int .i64 0]) ?_ 1 _ rfl; (with_reducible repeat (first | refine blk_drewN ?_ _ | refine blk_drew ?_ | refine blk_alloc ?_ _)); refine blk_put (cs := #[.int .i64 0, .int .i64 0, .int .i64 0, .int .i64 0]) ?_ 0 _ rfl; (with_reducible repeat (first | refine blk_drewN ?_ _ | refine blk_drew ?_ | refine blk_alloc ?_ _)); exact BK496.out) : p := h
theorem zr33 {p : Prop} (h : p := by have := HK1.out; have := HJ30.out; first | omega | exact Nat.le_refl _) : p := h
theorem zr34 {p : Prop} (h : p := by have := HK1.out; have := HJ30.out; have := HJ75.out; omega) : p := h
theorem zr35 {p : Prop} (h : p := by (with_reducible repeat (first | apply Kd.R_alloc | apply Kd.R_drewN | apply Kd.R_drew)); exact Kd.R_mono (Kd.R_far (p := ⟨gb490, 3, none⟩) (Kd.R_far (p := ⟨gb490, 2, none⟩) (Kd.R_far (p := ⟨gb490, 1, none⟩) (Kd.R_far (p := ⟨gb490, 0, none⟩) (Kd.R_types HO_12.out BK490.out (by decide)) (fun _ hk => hk.2) (.int .i64 t491)) (fun _ hk => hk.2) (.int .i64 t492)) (fun _ hk => hk.2) (.int .i64 t493)) (fun _ hk => hk.2) (.int .i64 t494)) (fun _ hk => trivial)) : p := h
theorem zr36 {p : Prop} (h : p := by (with_reducible repeat (first | refine blk_drewN ?_ _ | refine blk_drew ?_ | refine blk_alloc ?_ _)); refine blk_put (cs := #[.int .i64 t491, .int .i64 t492, .int .i64 t493, .int .i64 x491003_1]) ?_ 3 _ rfl; (with_reducible repeat (first | refine blk_drewN ?_ _ | refine blk_drew ?_ | refine blk_alloc ?_ _)); refine blk_put (cs := #[.int .i64 t491, .int .i64 t492, .int .i64 x491002_1, .int .i64 x491003_1]) ?_ 2 _ rfl; (with_reducible repeat (first | refine blk_drewN ?_ _ | refine blk_drew ?_ | refine blk_alloc ?_ _)); refine blk_put (cs := #[.int .i64 t491, .int .i64 x491001_1, .int .i64 x491002_1, .int .i64 x491003_1]) ?_ 1 _ rfl; (with_reducible repeat (first | refine blk_drewN ?_ _ | refine blk_drew ?_ | refine blk_alloc ?_ _)); refine blk_put (cs := #[.int .i64 x491000_1, .int .i64 x491001_1, .int .i64 x491002_1, .int .i64 x491003_1]) ?_ 0 _ rfl; (with_reducible repeat (first | refine blk_drewN ?_ _ | refine blk_drew ?_ | refine blk_alloc ?_ _)); exact BK490.out) : p := h
end Go.Proofs.YtlmfoblgheepoaaGreatDoor.Z
section
open Go.Proofs.YtlmfoblgheepoaaGreatDoor.Z
namespace Go.Proofs.YtlmfoblgheepoaaGreatDoor.Pl
open Go.RowKit Go.Proofs.YtlmfoblgheepoaaGreatDoorW.PrintWords Go.Proofs.YtlmfoblgheepoaaGreatDoorW.PrintLast Go.Proofs.YtlmfoblgheepoaaGreatDoorW.PrintMore
attribute [local go_sem] max2_int min2_int max_two min_two max_three min_three max_four min_four
set_option linter.unusedVariables false
set_option linter.unusedSimpArgs false
theorem info3 : (Tryz.prog.info? 3).map (fun i => (i.zero, i.size, i.bytes)) = some (some (.int .i64 0), 1, 8) := by kernel_rfl
end Go.Proofs.YtlmfoblgheepoaaGreatDoor.Pl
end
section
open Go.Proofs.YtlmfoblgheepoaaGreatDoor.Z
namespace Go.Proofs.YtlmfoblgheepoaaGreatDoor.Pl
open Go.RowKit Go.Proofs.YtlmfoblgheepoaaGreatDoorW.PrintWords Go.Proofs.YtlmfoblgheepoaaGreatDoorW.PrintLast Go.Proofs.YtlmfoblgheepoaaGreatDoorW.PrintMore
attribute [local go_sem] max2_int min2_int max_two min_two max_three min_three max_four min_four
set_option linter.unusedVariables false
set_option linter.unusedSimpArgs false
def dialtonelaw12_text.l0 : Nat → List Int → ByteArray → Int → Option (ByteArray)
 | 0, _, _, _ => none
 | k + 1, x0, x3, x4 => if x4 < (x0.length : Int) then (if x4 < 17 then (if 0 ≤ x4 then ((dialtonelaw12_pick.f (rd x0 x4) 10).bind fun t309 => ((some (([(wrap64 (48 + t309)) % 256] : List Int) : List Int)).bind fun y310 => (if x3.size + (strOfNums y310).size ≤ 9223372036854775807 then (dialtonelaw12_text.l0 k x0 (x3 ++ (strOfNums y310)) (wrap64 (x4 + 1))) else (none)))) else (none)) else (some x3)) else (some x3)
def dialtonelaw12_text.f (k : Nat) (l0 : List Int) : Option (ByteArray) := dialtonelaw12_text.l0 k l0 (⟨#[]⟩ : ByteArray) 0
set_option maxHeartbeats 8000000 in
set_option maxRecDepth 100000 in
theorem dialtonelaw12_text.calls (k : Nat) (A0 : Option Addr) (c0 : Nat) (l0 : List Int) (r : ByteArray) (w : World) (hr0 : Kd.C (Kd.int .i64) w A0 l0.length l0) (hc0 : l0.length ≤ c0) (h : dialtonelaw12_text.f k l0 = some r) :
 Calls Tryz.prog 15 #[.slice A0 l0.length c0] w fun e w' => e = .returned (.string r) ∧ Below w.heap.size w w' := by
 have HR0 := Aside0.mk hr0
 have HC0 := Aside0.mk hc0
 clear hr0 hc0
 have HB := Aside0.mk (Below.refl w.heap.size w)
 have H : (dialtonelaw12_text.l0 k l0 (⟨#[]⟩ : ByteArray) 0) = some r := h
 clear h
 have H' := Aside0.mk H
 clear H
 go_enter Tryz.func15, Tryz.ntmps15
 go_wp2
 go_loopg [3, 4] k (fun kq v3 v4 w' => ∃ (x3_1 : ByteArray) (x4_1 : Int), v3 = .string x3_1 ∧ v4 = .int .i64 x4_1 ∧ Aside0 (dialtonelaw12_text.l0 kq l0 x3_1 x4_1 = some r) ∧ Aside0 (kq ≤ k) ∧ Aside0 (Below w.heap.size w w'))
 case atStart => exact ⟨((⟨#[]⟩ : ByteArray)), (0), (zq6), (zq6), H', ⟨Nat.le_refl _⟩, ⟨zq1⟩⟩
 case round =>
  clear H'
  try clear c1
  obtain ⟨x3_1, x4_1, rfl, rfl, HA, HK1, HB⟩ := hrel
  cases gk with
  | zero => exact absurd HA.out (by simp [dialtonelaw12_text.l0])
  | succ k1 =>
   have H := HA.out
   clear HA
   simp only [dialtonelaw12_text.l0] at H
   by_cases c2 : x4_1 < (l0.length : Int)
   rotate_left
   ·rw [if_neg c2] at H
    have c2b0 : decide (x4_1 < (l0.length : Int)) = false := decide_eq_false c2
    clear c2
    obtain rfl := Option.some.inj H
    go_wp2
    go_ret
    exact ⟨zr5, zq1⟩
   rw [if_pos c2] at H
   have c2b0 : decide (x4_1 < (l0.length : Int)) = true := decide_eq_true c2
   clear c2
   by_cases c3 : x4_1 < 17
   rotate_left
   ·rw [if_neg c3] at H
    have c3b0 : decide (x4_1 < 17) = false := decide_eq_false c3
    clear c3
    obtain rfl := Option.some.inj H
    go_wp2
    go_ret
    exact ⟨zr5, zq1⟩
   rw [if_pos c3] at H
   have c3b0 : decide (x4_1 < 17) = true := decide_eq_true c3
   clear c3
   by_cases c4 : 0 ≤ x4_1
   rotate_left
   ·rw [if_neg c4] at H
    exact absurd H (by simp)
   rw [if_pos c4] at H
   have c4b0 : decide (0 ≤ x4_1) = true := decide_eq_true c4
   clear c4
   replace H := Option.bind_eq_some_iff.mp H
   obtain ⟨t309, A50, H⟩ := H
   try dsimp only at H
   have A5 := Aside0.mk A50
   clear A50
   obtain ⟨y310, hy310⟩ : ∃ y_ : List Int, y_ = (([(wrap64 (48 + t309)) % 256] : List Int)) := ⟨_, rfl⟩
   replace H : (if x3_1.size + (strOfNums y310).size ≤ 9223372036854775807 then (dialtonelaw12_text.l0 k1 l0 (x3_1 ++ (strOfNums y310)) (wrap64 (x4_1 + 1))) else (none)) = some r := by first | (rw [hy310]; with_reducible exact H) | (have H2_ := (Option.bind_some _ _).symm.trans H; rw [hy310]; with_reducible exact H2_) | (have H2_ := (Option.bind_some _ _).symm.trans H; with_reducible exact H2_) | with_reducible exact H | (rw [hy310]; exact H) | exact H
   have Ny310 := Aside0.mk hy310
   clear hy310
   by_cases c6 : x3_1.size + (strOfNums y310).size ≤ 9223372036854775807
   rotate_left
   ·rw [if_neg c6] at H
    exact absurd H (by simp)
   rw [if_pos c6] at H
   have c6b0 := eq_true c6
   have c6b1 : decide (x3_1.size + (strOfNums y310).size ≤ 9223372036854775807) = true := decide_eq_true c6
   try have c6b2 : (9223372036854775807 < x3_1.size + (strOfNums y310).size) = False := eq_false (Nat.not_lt.2 c6)
   have H' := Aside0.mk H
   clear H
   have p308 : 0 ≤ (x4_1 : Int) := of_decide_eq_true (zq14)
   have q308 : x4_1 < (l0.length : Int) := of_decide_eq_true (zq14)
   obtain ⟨ad308, e308, hx308_0⟩ := Kd.at_int HR0.out x4_1 p308 q308
   cases e308
   replace hx308_0 := (HB.out.cell (World.block_lt_of_cell? w _ hx308_0)).trans hx308_0
   replace p308 := eq_true p308
   replace q308 := eq_true q308
   go_wp2_with (first | ((with_reducible refine gate_callee (f := 16) rfl ?_); refine goesL_ (some 20) rfl rfl Tryz.func16 (by kernel_rfl) rfl #[.int .i64 (rd l0 x4_1), .int .i64 10] rfl (zq3) ?_; (with_reducible refine (dialtonelaw12_pick.calls (rd l0 x4_1) 10 t309 _ A5.out).mono ?_); rintro e w' ⟨rfl, ⟨nd, rfl⟩⟩; refine ⟨_, rfl, ?_⟩) | ((with_reducible refine gate_dst (N := 23) rfl ?_); refine Kd.R_lit (Kd.int .u8) _ 5 ?hg (N := 23) ?hd (xs := ([(wrap64 (48 + t309)) % 256] : List Int)) (inner := [.int .u8 ((wrap64 (48 + t309)) % 256)]) (ok := fun _ => True) (okp := fun _ => True) ?hr ?hp (fun _ hk => hk) trivial (Below.refl _ _) (Nat.le_refl _) (by simp) ?_; (case hd => rfl); (case hg => rfl); (case hr => exact zq0); (case hp => exact (Reps.one (show Kd.M (Kd.int .u8) _ _ _ ((wrap64 (48 + t309)) % 256) [.int .u8 ((wrap64 (48 + t309)) % 256)] from rfl) (Reps.none _ _))); intro v311 w7 ho8 hb hg_ hnew_; clear hg_ hnew_; (first | rw [← Ny310.out] at ho8 | (simp only [Int.reduceToNat] at ho8; rw [← Ny310.out] at ho8)); have n0_ := Aside0.mk (Kd.R_lower ho8 (below_size (zq1))); have n1_ := Aside0.mk (below_step (zq1) hb); clear HB; have HO312 := n0_; have HB := n1_; clear n0_ n1_; clear hb ho8; have hcv9 := own_string (P := Tryz.prog) Tryz.underlying65 Tryz.underlying5 Tryz.underlying9 (Kd.own_of_R HO312.out)))
   go_roundg k1
   case measure => have := HK1.out; omega
   case rel => exact ⟨(x3_1 ++ (strOfNums y310)), (wrap64 (x4_1 + 1)), (zq6), (zq6), H', ⟨by have := HK1.out; omega⟩, ⟨zq1⟩⟩
end Go.Proofs.YtlmfoblgheepoaaGreatDoor.Pl
end
section
open Go.Proofs.YtlmfoblgheepoaaGreatDoor.Z
namespace Go.Proofs.YtlmfoblgheepoaaGreatDoor.Pl
open Go.RowKit Go.Proofs.YtlmfoblgheepoaaGreatDoorW.PrintWords Go.Proofs.YtlmfoblgheepoaaGreatDoorW.PrintLast Go.Proofs.YtlmfoblgheepoaaGreatDoorW.PrintMore
attribute [local go_sem] max2_int min2_int max_two min_two max_three min_three max_four min_four
set_option linter.unusedVariables false
set_option linter.unusedSimpArgs false
mutual
def dialtonelaw12_completed.l0 : Nat → List (S29) → ByteArray → Int → Int → Option (Bool)
 | 0, _, _, _, _ => none
 | k + 1, x0, x1, x2, x7 => if x7 < 8 then (dialtonelaw12_completed.l1 k x0 x1 x2 x7 false 0) else (some false)
def dialtonelaw12_completed.l1 : Nat → List (S29) → ByteArray → Int → Int → Bool → Int → Option (Bool)
 | 0, _, _, _, _, _, _ => none
 | k + 1, x0, x1, x2, x7, x8, x9 => if x9 < 10 then (dialtonelaw12_completed.j2 k x0 x1 x2 x7 x8 x9 (!x8)) else (dialtonelaw12_completed.j2 k x0 x1 x2 x7 x8 x9 false)
def dialtonelaw12_completed.j2 : Nat → List (S29) → ByteArray → Int → Int → Bool → Int → Bool → Option (Bool)
 | 0, _, _, _, _, _, _, _ => none
 | k + 1, x0, x1, x2, x7, x8, x9, x22 => if x22 = true then ((some (([(wrap64 (48 + x9)) % 256] : List Int) : List Int)).bind fun y470 => (if x1.size + (strOfNums y470).size ≤ 9223372036854775807 then ((plan_Read.f k x0 (x1 ++ (strOfNums y470)) x2).bind fun bt473 => (if bt473.2.2.2.2 = 0 then (dialtonelaw12_completed.j3 k x0 x1 x2 x7 x8 x9 (x1 ++ (strOfNums y470)) bt473.2.2.2.2 (bt473.1 == 2) bt473.1 bt473.2.1 bt473.2.2.1 bt473.2.2.2.1) else (dialtonelaw12_completed.j3 k x0 x1 x2 x7 x8 x9 (x1 ++ (strOfNums y470)) bt473.2.2.2.2 false bt473.1 bt473.2.1 bt473.2.2.1 bt473.2.2.2.1))) else (none))) else (if x8 = true then (dialtonelaw12_completed.l0 k x0 x1 x2 (wrap64 (x7 + 1))) else (some false))
def dialtonelaw12_completed.j3 : Nat → List (S29) → ByteArray → Int → Int → Bool → Int → ByteArray → Int → Bool → Int → Int → Int → Int → Option (Bool)
 | 0, _, _, _, _, _, _, _, _, _, _, _, _, _ => none
 | k + 1, x0, x1, x2, x7, x8, x9, x10, x12, x45, x479000, x479001, x479002, x479003 => if x45 = true then (some true) else (if x12 = 0 then (if x479000 = 1 then (dialtonelaw12_completed.l1 k x0 x10 x2 x7 true (wrap64 (x9 + 1))) else (dialtonelaw12_completed.l1 k x0 x1 x2 x7 x8 (wrap64 (x9 + 1)))) else (dialtonelaw12_completed.l1 k x0 x1 x2 x7 x8 (wrap64 (x9 + 1))))
end
def dialtonelaw12_completed.f (k : Nat) (l0 : List (S29)) (a1 : ByteArray) (a2 : Int) : Option (Bool) := dialtonelaw12_completed.l0 k l0 a1 a2 0
set_option maxHeartbeats 8000000 in
set_option maxRecDepth 100000 in
theorem dialtonelaw12_completed.calls (k : Nat) (A0 : Option Addr) (c0 : Nat) (l0 : List (S29)) (a1 : ByteArray) (a2 : Int) (r : Bool) (w : World) (hr0 : Kd.C k29 w A0 l0.length l0) (hc0 : l0.length ≤ c0) (h : dialtonelaw12_completed.f k l0 a1 a2 = some r) :
 Calls Tryz.prog 28 #[.slice A0 l0.length c0, .string a1, .int .i64 a2] w fun e w' => e = .returned (.bool r) ∧ Below w.heap.size w w' := by
 have hu44 := Tryz.underlying44
 have HR0 := Aside0.mk hr0
 have HC0 := Aside0.mk hc0
 clear hr0 hc0
 have HB := Aside0.mk (Below.refl w.heap.size w)
 have H : (dialtonelaw12_completed.l0 k l0 a1 a2 0) = some r := h
 clear h
 have H' := Aside0.mk H
 clear H
 go_enter Tryz.func28, Tryz.ntmps28
 go_wp2
 go_loopg [1, 7] k (fun kq v1 v7 w' => ∃ (x1_1 : ByteArray) (x7_1 : Int), v1 = .string x1_1 ∧ v7 = .int .i64 x7_1 ∧ Aside0 (dialtonelaw12_completed.l0 kq l0 x1_1 a2 x7_1 = some r) ∧ Aside0 (kq ≤ k) ∧ Aside0 (Below w.heap.size w w'))
 case atStart => exact ⟨(a1), (0), (zq6), (zq6), H', ⟨Nat.le_refl _⟩, ⟨zq1⟩⟩
 case round =>
  clear H'
  try clear c2
  try clear p2
  obtain ⟨x1_1, x7_1, rfl, rfl, HA, HK1, HB⟩ := hrel
  cases gk with
  | zero => exact absurd HA.out (by simp [dialtonelaw12_completed.l0])
  | succ k1 =>
   have H := HA.out
   clear HA
   simp only [dialtonelaw12_completed.l0] at H
   by_cases c4 : x7_1 < 8
   rotate_left
   ·rw [if_neg c4] at H
    have c4b0 : decide (x7_1 < 8) = false := decide_eq_false c4
    clear c4
    obtain rfl := Option.some.inj H
    go_wp2
    go_ret
    exact ⟨zr5, zq1⟩
   rw [if_pos c4] at H
   have c4b0 : decide (x7_1 < 8) = true := decide_eq_true c4
   clear c4
   have H' := Aside0.mk H
   clear H
   go_wp2
   go_loopg [1, 8, 9] k1 (fun kq v1 v8 v9 w' => ∃ (x1_2 : ByteArray) (x8_2 : Bool) (x9_2 : Int), v1 = .string x1_2 ∧ v8 = .bool x8_2 ∧ v9 = .int .i64 x9_2 ∧ Aside0 (dialtonelaw12_completed.l1 kq l0 x1_2 a2 x7_1 x8_2 x9_2 = some r) ∧ Aside0 (kq ≤ k1) ∧ Aside0 (Below w.heap.size w w'))
   case atStart => exact ⟨(x1_1), (false), (0), (zq6), (zq6), (zq6), H', ⟨Nat.le_refl _⟩, ⟨zq1⟩⟩
   case round =>
    clear H'
    try clear c2
    try clear p2
    try clear c4
    try clear c4b0
    try clear p2
    obtain ⟨x1_2, x8_2, x9_2, rfl, rfl, rfl, HA, HK2, HB⟩ := hrel
    cases gk with
    | zero => exact absurd HA.out (by simp [dialtonelaw12_completed.l1])
    | succ k2 =>
     have H := HA.out
     clear HA
     simp only [dialtonelaw12_completed.l1] at H
     have HC5 := Aside0.mk H
     clear H
     go_upto_region 6 with (fail)
     go_cut [22] (fun v22 wc => ∃ (kq : Nat) (x22_4 : Bool), v22 = .bool x22_4 ∧ Aside0 (dialtonelaw12_completed.j2 kq l0 x1_2 a2 x7_1 x8_2 x9_2 x22_4 = some r) ∧ Aside0 (kq ≤ k2) ∧ Aside0 (Below w.heap.size w wc))
     case first =>
      have H := HC5.out
      clear HC5
      by_cases c6 : x9_2 < 10
      ·rw [if_pos c6] at H
       have c6b0 : decide (x9_2 < 10) = true := decide_eq_true c6
       clear c6
       (first | rw [c6b0] | (simp only [i64_w, i32_w]; rw [c6b0]) | skip)
       have H' := Aside0.mk H
       clear H
       go_wp2
       go_meet
       case rel => exact ⟨_, (!x8_2), (zq6), H', ⟨zr10⟩, ⟨zq1⟩⟩
      rw [if_neg c6] at H
      have c6b0 : decide (x9_2 < 10) = false := decide_eq_false c6
      clear c6
      (first | rw [c6b0] | (simp only [i64_w, i32_w]; rw [c6b0]) | skip)
      have H' := Aside0.mk H
      clear H
      go_wp2
      go_meet
      case rel => exact ⟨_, (false), (zq6), H', ⟨zr10⟩, ⟨zq1⟩⟩
     case rest =>
      clear HC5
      try clear c2
      try clear p2
      try clear c4
      try clear c4b0
      try clear c6
      try clear c6b0
      try clear p2
      obtain ⟨kq, x22_4, rfl, HA, HJ4, HB⟩ := hcut
      cases kq with
      | zero => exact absurd HA.out (by simp [dialtonelaw12_completed.j2])
      | succ kj4 =>
       have H := HA.out
       clear HA
       simp only [dialtonelaw12_completed.j2] at H
       by_cases c7 : x22_4 = true
       rotate_left
       ·replace c7 := Bool.eq_false_iff.mpr c7
        subst c7
        rw [if_neg (show ¬ (false = true) by decide)] at H
        by_cases c24 : x8_2 = true
        rotate_left
        ·replace c24 := Bool.eq_false_iff.mpr c24
         subst c24
         rw [if_neg (show ¬ (false = true) by decide)] at H
         obtain rfl := Option.some.inj H
         go_wp2
         go_ret
         exact ⟨zr5, zq1⟩
        subst c24
        rw [if_pos rfl] at H
        have H' := Aside0.mk H
        clear H
        go_wp2
        go_roundg kj4
        case measure => have := HK1.out; have := HK2.out; have := HJ4.out; omega
        case rel => exact ⟨(x1_2), (wrap64 (x7_1 + 1)), (zq6), (zq6), H', ⟨by have := HK1.out; have := HK2.out; have := HJ4.out; omega⟩, ⟨zq1⟩⟩
       subst c7
       rw [if_pos rfl] at H
       obtain ⟨y470, hy470⟩ : ∃ y_ : List Int, y_ = (([(wrap64 (48 + x9_2)) % 256] : List Int)) := ⟨_, rfl⟩
       replace H : (if x1_2.size + (strOfNums y470).size ≤ 9223372036854775807 then ((plan_Read.f kj4 l0 (x1_2 ++ (strOfNums y470)) a2).bind fun bt473 => (if bt473.2.2.2.2 = 0 then (dialtonelaw12_completed.j3 kj4 l0 x1_2 a2 x7_1 x8_2 x9_2 (x1_2 ++ (strOfNums y470)) bt473.2.2.2.2 (bt473.1 == 2) bt473.1 bt473.2.1 bt473.2.2.1 bt473.2.2.2.1) else (dialtonelaw12_completed.j3 kj4 l0 x1_2 a2 x7_1 x8_2 x9_2 (x1_2 ++ (strOfNums y470)) bt473.2.2.2.2 false bt473.1 bt473.2.1 bt473.2.2.1 bt473.2.2.2.1))) else (none)) = some r := by first | (rw [hy470]; with_reducible exact H) | (have H2_ := (Option.bind_some _ _).symm.trans H; rw [hy470]; with_reducible exact H2_) | (have H2_ := (Option.bind_some _ _).symm.trans H; with_reducible exact H2_) | with_reducible exact H | (rw [hy470]; exact H) | exact H
       have Ny470 := Aside0.mk hy470
       clear hy470
       by_cases c8 : x1_2.size + (strOfNums y470).size ≤ 9223372036854775807
       rotate_left
       ·rw [if_neg c8] at H
        exact absurd H (by simp)
       rw [if_pos c8] at H
       have c8b0 := eq_true c8
       have c8b1 : decide (x1_2.size + (strOfNums y470).size ≤ 9223372036854775807) = true := decide_eq_true c8
       try have c8b2 : (9223372036854775807 < x1_2.size + (strOfNums y470).size) = False := eq_false (Nat.not_lt.2 c8)
       replace H := Option.bind_eq_some_iff.mp H
       obtain ⟨⟨t473, t474, t475, t476, t477⟩, A90, H⟩ := H
       try dsimp only at H
       have A9 := Aside0.mk A90
       clear A90
       have HC10 := Aside0.mk H
       clear H
       go_upto_region 10 with (first | ((with_reducible refine gate_dst (N := 29) rfl ?_); refine Kd.R_lit (Kd.int .u8) _ 5 ?hg (N := 29) ?hd (xs := ([(wrap64 (48 + x9_2)) % 256] : List Int)) (inner := [.int .u8 ((wrap64 (48 + x9_2)) % 256)]) (ok := fun _ => True) (okp := fun _ => True) ?hr ?hp (fun _ hk => hk) trivial (Below.refl _ _) (Nat.le_refl _) (by simp) ?_; (case hd => rfl); (case hg => rfl); (case hr => exact zq0); (case hp => exact (Reps.one (show Kd.M (Kd.int .u8) _ _ _ ((wrap64 (48 + x9_2)) % 256) [.int .u8 ((wrap64 (48 + x9_2)) % 256)] from rfl) (Reps.none _ _))); intro v471 w11 ho12 hb hg_ hnew_; clear hg_ hnew_; (first | rw [← Ny470.out] at ho12 | (simp only [Int.reduceToNat] at ho12; rw [← Ny470.out] at ho12)); have n0_ := Aside0.mk (Kd.R_lower ho12 (below_size (zq1))); have n1_ := Aside0.mk (below_step (zq1) hb); clear HB; have HO472 := n0_; have HB := n1_; clear n0_ n1_; clear hb ho12; have hcv13 := own_string (P := Tryz.prog) Tryz.underlying65 Tryz.underlying5 Tryz.underlying9 (Kd.own_of_R HO472.out)) | ((with_reducible refine gate_callee (f := 21) rfl ?_); refine goesL_ (some 36) rfl rfl Tryz.func21 (by kernel_rfl) rfl #[.slice A0 l0.length c0, .string (x1_2 ++ (strOfNums y470)), .int .i64 a2] rfl (zq3) ?_; (with_reducible refine (plan_Read.calls kj4 _ _ l0 (x1_2 ++ (strOfNums y470)) a2 t473 t474 t475 t476 t477 _ ?side1 ?side2 A9.out).mono ?_); (case side1 => exact zq25); (case side2 => exact zq26); rintro e w14 ⟨rfl, hb⟩; refine ⟨_, rfl, ?_⟩; have n0_ := Aside0.mk (Kd.R_below (zr8) hb); have n1_ := Aside0.mk (below_step (zq1) hb); clear HO472; clear HB; have HO472 := n0_; have HB := n1_; clear n0_ n1_; (try clear hb); (try clear hb2); (try clear hk); (try clear hi)) | ((with_reducible refine gate_dst (N := 11) rfl ?_); refine box_event ?hg (N := 11) ?hd (cs := #[.int .i64 0, .int .i64 0, .int .i64 0, .int .i64 0]) (t := 44) ?hr ?_; (case hd => rfl); (case hg => rfl); (case hr => exact zq0); intro gb478 hg w15 hbox hb; have n0_ := Aside0.mk (Kd.R_below (zr8) hb); have n1_ := Aside0.mk (below_step (zq1) hb); have n2_ := Aside0.mk (hbox); have n3_ := Aside0.mk ((zq2 : w.heap.size ≤ gb478)); have n4_ := Aside0.mk ((zq2 : w.heap.size ≤ gb478)); clear HO472; clear HB; have HO472 := n0_; have HB := n1_; have BK478 := n2_; have GW478 := n3_; have GE478 := n4_; clear n0_ n1_ n2_ n3_ n4_; clear hb hbox hg; have hcz16_0 : w15.cell? ⟨gb478, 0, none⟩ = some (.int .i64 0) := (blk_cell BK478.out 0).trans rfl; have hcz16_1 : w15.cell? ⟨gb478, 1, none⟩ = some (.int .i64 0) := (blk_cell BK478.out 1).trans rfl; have hcz16_2 : w15.cell? ⟨gb478, 2, none⟩ = some (.int .i64 0) := (blk_cell BK478.out 2).trans rfl; have hcz16_3 : w15.cell? ⟨gb478, 3, none⟩ = some (.int .i64 0) := (blk_cell BK478.out 3).trans rfl; have hfz16_0 := blk_frozen BK478.out 0; have hfz16_1 := blk_frozen BK478.out 1; have hfz16_2 := blk_frozen BK478.out 2; have hfz16_3 := blk_frozen BK478.out 3))
       (try simp only [Act.put, List.setIfInBounds_toArray, List.set_cons_zero, List.set_cons_succ])
       go_cut [45] (fun v45 wc => ∃ (kq : Nat) (x45_9 : Bool), v45 = .bool x45_9 ∧ Aside0 (dialtonelaw12_completed.j3 kq l0 x1_2 a2 x7_1 x8_2 x9_2 (x1_2 ++ (strOfNums y470)) t477 x45_9 t473 t474 t475 t476 = some r) ∧ Aside0 (kq ≤ kj4) ∧ Aside0 (wc.heap[gb478]? = some (.cells #[.int .i64 t473, .int .i64 t474, .int .i64 t475, .int .i64 t476] 44 (0, 0))) ∧ Aside0 (Below w.heap.size w wc))
       case first =>
        have H := HC10.out
        clear HC10
        by_cases c17 : t477 = 0
        rotate_left
        ·rw [if_neg c17] at H
         have c17b0 : (t477 == 0) = false := beq_eq_false_iff_ne.mpr c17
         have c17b1 : (t477 != 0) = true := bne_iff_ne.mpr c17
         (first | rw [c17b0] | (simp only [i64_w, i32_w]; rw [c17b0]) | skip)
         have H' := Aside0.mk H
         clear H
         go_wp2
         go_meet
         case rel => exact ⟨_, (false), (zq6), H', ⟨zr11⟩, ⟨zr12⟩, ⟨zr13⟩⟩
        rw [if_pos c17] at H
        have c17b0 : (t477 == 0) = true := beq_iff_eq.mpr c17
        have c17b1 : (t477 != 0) = false := bne_eq_false_iff_eq.mpr c17
        clear c17
        (first | rw [c17b0] | (simp only [i64_w, i32_w]; rw [c17b0]) | skip)
        have H' := Aside0.mk H
        clear H
        have hcz18_0 : w15.cell? ⟨gb478, 0, none⟩ = some (.int .i64 0) := (blk_cell BK478.out 0).trans rfl
        have hcz18_1 : w15.cell? ⟨gb478, 1, none⟩ = some (.int .i64 0) := (blk_cell BK478.out 1).trans rfl
        have hcz18_2 : w15.cell? ⟨gb478, 2, none⟩ = some (.int .i64 0) := (blk_cell BK478.out 2).trans rfl
        have hcz18_3 : w15.cell? ⟨gb478, 3, none⟩ = some (.int .i64 0) := (blk_cell BK478.out 3).trans rfl
        have hfz18_0 := blk_frozen BK478.out 0
        have hfz18_1 := blk_frozen BK478.out 1
        have hfz18_2 := blk_frozen BK478.out 2
        have hfz18_3 := blk_frozen BK478.out 3
        go_wp2
        go_meet
        case rel => exact ⟨_, ((t473 == 2)), (zq6), H', ⟨zr11⟩, ⟨zr12⟩, ⟨zr13⟩⟩
       case rest =>
        clear HC10
        try clear c1
        try clear hcv1
        try clear c2
        try clear p2
        try clear c4
        try clear c4b0
        try clear c6
        try clear c6b0
        try clear p6
        try clear c7
        try clear c8
        try clear c8b0
        try clear c8b1
        try clear c8b2
        try clear hcv13
        try clear c17
        try clear c17b0
        try clear c17b1
        try clear hcz16_0
        try clear hcz16_1
        try clear hcz16_2
        try clear hcz16_3
        try clear hcz18_0
        try clear hcz18_1
        try clear hcz18_2
        try clear hcz18_3
        try clear hfz16_0
        try clear hfz16_1
        try clear hfz16_2
        try clear hfz16_3
        try clear hfz18_0
        try clear hfz18_1
        try clear hfz18_2
        try clear hfz18_3
        try clear p2
        obtain ⟨kq, x45_9, rfl, HA, HJ9, BK478, HB⟩ := hcut
        cases kq with
        | zero => exact absurd HA.out (by simp [dialtonelaw12_completed.j3])
        | succ kj9 =>
         have H := HA.out
         clear HA
         simp only [dialtonelaw12_completed.j3] at H
         by_cases c19 : x45_9 = true
         ·subst c19
          rw [if_pos rfl] at H
          obtain rfl := Option.some.inj H
          go_wp2
          go_ret
          exact ⟨zr5, zr13⟩
         replace c19 := Bool.eq_false_iff.mpr c19
         subst c19
         rw [if_neg (show ¬ (false = true) by decide)] at H
         by_cases c20 : t477 = 0
         rotate_left
         ·rw [if_neg c20] at H
          have c20b0 : (t477 == 0) = false := beq_eq_false_iff_ne.mpr c20
          have c20b1 : (t477 != 0) = true := bne_iff_ne.mpr c20
          have H' := Aside0.mk H
          clear H
          go_wp2
          go_roundg kj9
          case measure => have := HK1.out; have := HK2.out; have := HJ4.out; have := HJ9.out; omega
          case rel => exact ⟨(x1_2), (x8_2), (wrap64 (x9_2 + 1)), (zq6), (zq6), (zq6), H', ⟨zr14⟩, ⟨zr13⟩⟩
         rw [if_pos c20] at H
         have c20b0 : (t477 == 0) = true := beq_iff_eq.mpr c20
         have c20b1 : (t477 != 0) = false := bne_eq_false_iff_eq.mpr c20
         clear c20
         by_cases c21 : t473 = 1
         rotate_left
         ·rw [if_neg c21] at H
          have c21b0 : (t473 == 1) = false := beq_eq_false_iff_ne.mpr c21
          have c21b1 : (t473 != 1) = true := bne_iff_ne.mpr c21
          have H' := Aside0.mk H
          clear H
          have hcz23_0 : wc.cell? ⟨gb478, 0, none⟩ = some (.int .i64 t473) := (blk_cell BK478.out 0).trans rfl
          have hcz23_1 : wc.cell? ⟨gb478, 1, none⟩ = some (.int .i64 t474) := (blk_cell BK478.out 1).trans rfl
          have hcz23_2 : wc.cell? ⟨gb478, 2, none⟩ = some (.int .i64 t475) := (blk_cell BK478.out 2).trans rfl
          have hcz23_3 : wc.cell? ⟨gb478, 3, none⟩ = some (.int .i64 t476) := (blk_cell BK478.out 3).trans rfl
          have hfz23_0 := blk_frozen BK478.out 0
          have hfz23_1 := blk_frozen BK478.out 1
          have hfz23_2 := blk_frozen BK478.out 2
          have hfz23_3 := blk_frozen BK478.out 3
          go_wp2
          go_roundg kj9
          case measure => have := HK1.out; have := HK2.out; have := HJ4.out; have := HJ9.out; omega
          case rel => exact ⟨(x1_2), (x8_2), (wrap64 (x9_2 + 1)), (zq6), (zq6), (zq6), H', ⟨zr14⟩, ⟨zr13⟩⟩
         rw [if_pos c21] at H
         have c21b0 : (t473 == 1) = true := beq_iff_eq.mpr c21
         have c21b1 : (t473 != 1) = false := bne_eq_false_iff_eq.mpr c21
         clear c21
         have H' := Aside0.mk H
         clear H
         have hcz22_0 : wc.cell? ⟨gb478, 0, none⟩ = some (.int .i64 t473) := (blk_cell BK478.out 0).trans rfl
         have hcz22_1 : wc.cell? ⟨gb478, 1, none⟩ = some (.int .i64 t474) := (blk_cell BK478.out 1).trans rfl
         have hcz22_2 : wc.cell? ⟨gb478, 2, none⟩ = some (.int .i64 t475) := (blk_cell BK478.out 2).trans rfl
         have hcz22_3 : wc.cell? ⟨gb478, 3, none⟩ = some (.int .i64 t476) := (blk_cell BK478.out 3).trans rfl
         have hfz22_0 := blk_frozen BK478.out 0
         have hfz22_1 := blk_frozen BK478.out 1
         have hfz22_2 := blk_frozen BK478.out 2
         have hfz22_3 := blk_frozen BK478.out 3
         go_wp2
         go_roundg kj9
         case measure => have := HK1.out; have := HK2.out; have := HJ4.out; have := HJ9.out; omega
         case rel => exact ⟨((x1_2 ++ (strOfNums y470))), (true), (wrap64 (x9_2 + 1)), (zq6), (zq6), (zq6), H', ⟨zr14⟩, ⟨zr13⟩⟩
end Go.Proofs.YtlmfoblgheepoaaGreatDoor.Pl
end
section
open Go.Proofs.YtlmfoblgheepoaaGreatDoor.Z
namespace Go.Proofs.YtlmfoblgheepoaaGreatDoor.Pl
open Go.RowKit Go.Proofs.YtlmfoblgheepoaaGreatDoorW.PrintWords Go.Proofs.YtlmfoblgheepoaaGreatDoorW.PrintLast Go.Proofs.YtlmfoblgheepoaaGreatDoorW.PrintMore
attribute [local go_sem] max2_int min2_int max_two min_two max_three min_three max_four min_four
set_option linter.unusedVariables false
set_option linter.unusedSimpArgs false
attribute [local go_sem high] eqA44
mutual
def dialtonelaw12_PlanDigits.l0 : Nat → Bool → List (S29) → Int → ByteArray → Int → Int → Int → Int → Int → Option (Bool)
 | 0, _, _, _, _, _, _, _, _, _ => none
 | k + 1, x11, x12, x13, x14, x17, x491000, x491001, x491002, x491003 => if x17 ≤ (x14.size : Int) then (if 0 ≤ x17 then ((plan_Read.f k x12 (x14.extract 0 (x17 : Int).toNat) x13).bind fun bt491 => (if bt491.2.2.2.2 = 0 then (if x491000 = 0 then (if (!(bt491.1 == x491000) || (!(bt491.2.1 == x491001) || (!(bt491.2.2.1 == x491002) || (!(bt491.2.2.2.1 == x491003))))) = true then (dialtonelaw12_PlanDigits.j1 k x11 x12 x13 x14 x17 true bt491.1 bt491.2.1 bt491.2.2.1 bt491.2.2.2.1) else (if x491000 = 2 then (if x17 = 0 then (dialtonelaw12_PlanDigits.j1 k x11 x12 x13 x14 x17 (bt491.1 == 2) bt491.1 bt491.2.1 bt491.2.2.1 bt491.2.2.2.1) else (dialtonelaw12_PlanDigits.j1 k x11 x12 x13 x14 x17 false bt491.1 bt491.2.1 bt491.2.2.1 bt491.2.2.2.1)) else (if x17 = 0 then (dialtonelaw12_PlanDigits.j1 k x11 x12 x13 x14 x17 (bt491.1 == 2) bt491.1 bt491.2.1 bt491.2.2.1 bt491.2.2.2.1) else (dialtonelaw12_PlanDigits.j1 k x11 x12 x13 x14 x17 false bt491.1 bt491.2.1 bt491.2.2.1 bt491.2.2.2.1)))) else (if x491000 = 2 then (if (!(bt491.1 == x491000) || (!(bt491.2.1 == x491001) || (!(bt491.2.2.1 == x491002) || (!(bt491.2.2.2.1 == x491003))))) = true then (dialtonelaw12_PlanDigits.j1 k x11 x12 x13 x14 x17 true bt491.1 bt491.2.1 bt491.2.2.1 bt491.2.2.2.1) else (if x17 = 0 then (dialtonelaw12_PlanDigits.j1 k x11 x12 x13 x14 x17 (bt491.1 == 2) bt491.1 bt491.2.1 bt491.2.2.1 bt491.2.2.2.1) else (dialtonelaw12_PlanDigits.j1 k x11 x12 x13 x14 x17 false bt491.1 bt491.2.1 bt491.2.2.1 bt491.2.2.2.1))) else (if x17 = 0 then (dialtonelaw12_PlanDigits.j1 k x11 x12 x13 x14 x17 (bt491.1 == 2) bt491.1 bt491.2.1 bt491.2.2.1 bt491.2.2.2.1) else (dialtonelaw12_PlanDigits.j1 k x11 x12 x13 x14 x17 false bt491.1 bt491.2.1 bt491.2.2.1 bt491.2.2.2.1)))) else (dialtonelaw12_PlanDigits.j1 k x11 x12 x13 x14 x17 true bt491.1 bt491.2.1 bt491.2.2.1 bt491.2.2.2.1))) else (none)) else (some x11)
def dialtonelaw12_PlanDigits.j1 : Nat → Bool → List (S29) → Int → ByteArray → Int → Bool → Int → Int → Int → Int → Option (Bool)
 | 0, _, _, _, _, _, _, _, _, _, _ => none
 | k + 1, x11, x12, x13, x14, x17, x94, x497000, x497001, x497002, x497003 => if x94 = true then (some false) else (if x497000 = 1 then (if 0 ≤ x17 then (if x17 ≤ (x14.size : Int) then ((dialtonelaw12_completed.f k x12 (x14.extract 0 (x17 : Int).toNat) x13).bind fun t497 => (dialtonelaw12_PlanDigits.j2 k x11 x12 x13 x14 x17 (!t497) x497000 x497001 x497002 x497003)) else (none)) else (none)) else (dialtonelaw12_PlanDigits.j2 k x11 x12 x13 x14 x17 false x497000 x497001 x497002 x497003))
def dialtonelaw12_PlanDigits.j2 : Nat → Bool → List (S29) → Int → ByteArray → Int → Bool → Int → Int → Int → Int → Option (Bool)
 | 0, _, _, _, _, _, _, _, _, _, _ => none
 | k + 1, x11, x12, x13, x14, x17, x106, x497000, x497001, x497002, x497003 => if x106 = true then (some false) else (if x497000 = 2 then (if x497003 > x17 then (some false) else (dialtonelaw12_PlanDigits.l0 k x11 x12 x13 x14 (wrap64 (x17 + 1)) x497000 x497001 x497002 x497003)) else (dialtonelaw12_PlanDigits.l0 k x11 x12 x13 x14 (wrap64 (x17 + 1)) x497000 x497001 x497002 x497003))
end
def dialtonelaw12_PlanDigits.f (k : Nat) (l0 : List (S23)) (l1 : List Int) (a2 : Int) (a3 : Int) (a4 : Int) : Option (Bool) := (dialtonelaw12_sane.f k).bind fun t479 => (if t479 = true then ((dialtoneref12_Made.f k l0).bind fun t480 => ((dialtonelaw12_pick.f a4 3).bind fun t483 => ((dialtoneref12_Number.f k t480 a2 a3).bind fun t484 => ((dialtonelaw12_pick.f a4 2).bind fun t485 => ((plan_Write.f k t480 t484 (wrap64 (1 + t485))).bind fun bt486 => (if 0 ≤ (mn (l1.length : Int) 8) then (if (mn (l1.length : Int) 8) ≤ (l1.length : Int) then ((dialtonelaw12_text.f k (l1.take ((mn (l1.length : Int) 8) : Int).toNat)).bind fun t489 => (if bt486.1.size + t489.size ≤ 9223372036854775807 then (dialtonelaw12_PlanDigits.l0 k t479 t480 (wrap64 (1 + t483)) (bt486.1 ++ t489) 0 1 0 0 0) else (none))) else (none)) else (none))))))) else (some false))
set_option maxHeartbeats 8000000 in
set_option maxRecDepth 100000 in
theorem dialtonelaw12_PlanDigits.calls (k : Nat) (A0 : Option Addr) (c0 : Nat) (l0 : List (S23)) (A1 : Option Addr) (c1 : Nat) (l1 : List Int) (a2 : Int) (a3 : Int) (a4 : Int) (r : Bool) (w : World) (hr0 : Kd.C k23 w A0 l0.length l0) (hc0 : l0.length ≤ c0) (hr1 : Kd.C (Kd.int .i64) w A1 l1.length l1) (hc1 : l1.length ≤ c1) (hG : Glb w) (h : dialtonelaw12_PlanDigits.f k l0 l1 a2 a3 a4 = some r) :
 Calls Tryz.prog 6 #[.slice A0 l0.length c0, .slice A1 l1.length c1, .int .i64 a2, .int .i64 a3, .int .i64 a4] w fun e w' => e = .returned (.bool r) ∧ Below w.heap.size w w' := by
 have HGLB := Aside0.mk hG
 clear hG
 have hu44 := Tryz.underlying44
 have HR0 := Aside0.mk hr0
 have HC0 := Aside0.mk hc0
 clear hr0 hc0
 have HR1 := Aside0.mk hr1
 have HC1 := Aside0.mk hc1
 clear hr1 hc1
 have HB := Aside0.mk (Below.refl w.heap.size w)
 have H : ((dialtonelaw12_sane.f k).bind fun t479 => (if t479 = true then ((dialtoneref12_Made.f k l0).bind fun t480 => ((dialtonelaw12_pick.f a4 3).bind fun t483 => ((dialtoneref12_Number.f k t480 a2 a3).bind fun t484 => ((dialtonelaw12_pick.f a4 2).bind fun t485 => ((plan_Write.f k t480 t484 (wrap64 (1 + t485))).bind fun bt486 => (if 0 ≤ (mn (l1.length : Int) 8) then (if (mn (l1.length : Int) 8) ≤ (l1.length : Int) then ((dialtonelaw12_text.f k (l1.take ((mn (l1.length : Int) 8) : Int).toNat)).bind fun t489 => (if bt486.1.size + t489.size ≤ 9223372036854775807 then (dialtonelaw12_PlanDigits.l0 k t479 t480 (wrap64 (1 + t483)) (bt486.1 ++ t489) 0 1 0 0 0) else (none))) else (none)) else (none))))))) else (some false))) = some r := h
 clear h
 replace H := Option.bind_eq_some_iff.mp H
 obtain ⟨t479, A60, H⟩ := H
 try dsimp only at H
 have A6 := Aside0.mk A60
 clear A60
 by_cases c7 : t479 = true
 rotate_left
 ·replace c7 := Bool.eq_false_iff.mpr c7
  subst c7
  rw [if_neg (show ¬ (false = true) by decide)] at H
  obtain rfl := Option.some.inj H
  go_enter Tryz.func6, Tryz.ntmps6
  go_wp2_with (first | ((with_reducible refine gate_callee (f := 11) rfl ?_); refine goesL_ (some 20) rfl rfl Tryz.func11 (by kernel_rfl) rfl #[] rfl (zq3) ?_; (with_reducible refine (dialtonelaw12_sane.calls k  false _ ?side1 A6.out).mono ?_); (case side1 => exact zq27); rintro e w97 ⟨rfl, hb⟩; refine ⟨_, rfl, ?_⟩; have n0_ := Aside0.mk (below_step (zq1) hb); clear HB; have HB := n0_; clear n0_; (try clear hb); (try clear hb2); (try clear hk); (try clear hi)))
  go_ret
  exact ⟨zr5, zq1⟩
 subst c7
 rw [if_pos rfl] at H
 replace H := Option.bind_eq_some_iff.mp H
 obtain ⟨t480, A80, H⟩ := H
 try dsimp only at H
 have A8 := Aside0.mk A80
 clear A80
 replace H := Option.bind_eq_some_iff.mp H
 obtain ⟨t483, A90, H⟩ := H
 try dsimp only at H
 have A9 := Aside0.mk A90
 clear A90
 replace H := Option.bind_eq_some_iff.mp H
 obtain ⟨t484, A100, H⟩ := H
 try dsimp only at H
 have A10 := Aside0.mk A100
 clear A100
 replace H := Option.bind_eq_some_iff.mp H
 obtain ⟨t485, A110, H⟩ := H
 try dsimp only at H
 have A11 := Aside0.mk A110
 clear A110
 replace H := Option.bind_eq_some_iff.mp H
 obtain ⟨⟨t486, t487⟩, A120, H⟩ := H
 try dsimp only at H
 have A12 := Aside0.mk A120
 clear A120
 obtain ⟨ji13, hji13⟩ : ∃ j_ : Int, (mn (l1.length : Int) 8) = j_ := ⟨_, rfl⟩
 replace H : (if 0 ≤ (ji13) then (if (ji13) ≤ (l1.length : Int) then ((dialtonelaw12_text.f k (l1.take ((ji13) : Int).toNat)).bind fun t489 => (if t486.size + t489.size ≤ 9223372036854775807 then (dialtonelaw12_PlanDigits.l0 k true t480 (wrap64 (1 + t483)) (t486 ++ t489) 0 1 0 0 0) else (none))) else (none)) else (none)) = some r := by first | (rw [hji13] at H; exact H) | (simp only [hji13] at H ⊢; exact H)
 (try rw [hji13] at A6)
 (try rw [hji13] at A8)
 (try rw [hji13] at A9)
 (try rw [hji13] at A10)
 (try rw [hji13] at A11)
 (try rw [hji13] at A12)
 (try (have hji13h : ji13 ≤ 8 := by (rw [← hji13]; unfold mn; (repeat' split) <;> omega)))
 (try (have hji13g : ji13 ≤ 64 := by omega))
 (try (have hji13l : 0 ≤ ji13 := by (rw [← hji13]; unfold mn; (repeat' split) <;> omega)))
 (try (have hji13m : 0 ≤ ji13 := by omega))
 have hji13_ : (if 8 < (l1.length : Int) then 8 else (l1.length : Int)) = ji13 := hji13
 by_cases c14 : 0 ≤ (ji13)
 rotate_left
 ·rw [if_neg c14] at H
  exact absurd H (by simp)
 rw [if_pos c14] at H
 have c14b0 := eq_true c14
 have c14b1 : decide (0 ≤ (ji13)) = true := decide_eq_true c14
 clear c14
 by_cases c15 : (ji13) ≤ (l1.length : Int)
 rotate_left
 ·rw [if_neg c15] at H
  exact absurd H (by simp)
 rw [if_pos c15] at H
 have c15b0 := eq_true c15
 have c15b1 : decide ((ji13) ≤ (l1.length : Int)) = true := decide_eq_true c15
 clear c15
 replace H := Option.bind_eq_some_iff.mp H
 obtain ⟨t489, A160, H⟩ := H
 try dsimp only at H
 have A16 := Aside0.mk A160
 clear A160
 by_cases c17 : t486.size + t489.size ≤ 9223372036854775807
 rotate_left
 ·rw [if_neg c17] at H
  exact absurd H (by simp)
 rw [if_pos c17] at H
 have c17b0 := eq_true c17
 have c17b1 : decide (t486.size + t489.size ≤ 9223372036854775807) = true := decide_eq_true c17
 try have c17b2 : (9223372036854775807 < t486.size + t489.size) = False := eq_false (Nat.not_lt.2 c17)
 have H' := Aside0.mk H
 clear H
 go_enter Tryz.func6, Tryz.ntmps6
 go_wp2_with (first | ((with_reducible refine gate_callee (f := 11) rfl ?_); refine goesL_ (some 20) rfl rfl Tryz.func11 (by kernel_rfl) rfl #[] rfl (zq3) ?_; (with_reducible refine (dialtonelaw12_sane.calls k  true _ ?side1 A6.out).mono ?_); (case side1 => exact zq27); rintro e w18 ⟨rfl, hb⟩; refine ⟨_, rfl, ?_⟩; have n0_ := Aside0.mk (below_step (zq1) hb); clear HB; have HB := n0_; clear n0_; (try clear hb); (try clear hb2); (try clear hk); (try clear hi)) | ((with_reducible refine gate_callee (f := 12) rfl ?_); refine goesL_ (some 24) rfl rfl Tryz.func12 (by kernel_rfl) rfl #[.slice A0 l0.length c0] rfl (zq3) ?_; (with_reducible refine (dialtoneref12_Made.calls k _ _ l0 t480 _ ?side1 ?side2 A8.out).mono ?_); (case side1 => exact zq25); (case side2 => exact zq26); rintro e w19 ⟨v481, rfl, ho0, hb⟩; refine ⟨_, rfl, ?_⟩; have n0_ := Aside0.mk (Kd.R_lower ho0 (below_size (zq1))); have n1_ := Aside0.mk (below_step (zq1) hb); clear HB; have HO482 := n0_; have HB := n1_; clear n0_ n1_; (try clear hb); (try clear hb2); (try clear hk); (try clear hi); (try clear ho0)) | ((with_reducible refine gate_callee (f := 16) rfl ?_); refine goesL_ (some 26) rfl rfl Tryz.func16 (by kernel_rfl) rfl #[.int .i64 a4, .int .i64 3] rfl (zq3) ?_; (with_reducible refine (dialtonelaw12_pick.calls a4 3 t483 _ A9.out).mono ?_); rintro e w' ⟨rfl, ⟨nd, rfl⟩⟩; refine ⟨_, rfl, ?_⟩; (try (rw [drewN_self w19]; generalize hq_ : World.drewN w19 _ = w19; have n0_ : Aside0 (Kd.R k29 29 w19 w.heap.size (fun _ => True) v481 t480) := ⟨zr26⟩; have n1_ : Aside0 (Below w.heap.size w w19) := ⟨zr27⟩; clear HO482 HB hq_; have HO482 := n0_; have HB := n1_; clear n0_ n1_)); obtain ⟨Ao20, co20, eo20⟩ := Kd.R_slice HO482.out; subst eo20) | ((with_reducible refine gate_callee (f := 13) rfl ?_); refine goesL_ (some 33) rfl rfl Tryz.func13 (by kernel_rfl) rfl #[.slice Ao20 t480.length co20, .int .i64 a2, .int .i64 a3] rfl (zq3) ?_; (with_reducible refine (dialtoneref12_Number.calls k _ _ t480 a2 a3 t484 _ ?side1 ?side2 A10.out).mono ?_); (case side1 => exact zr17); (case side2 => exact (Kd.R_reads' HO482.out).2.1); rintro e w21 ⟨rfl, hb⟩; refine ⟨_, rfl, ?_⟩; have n0_ := Aside0.mk (Kd.R_below (zr16) hb); have n1_ := Aside0.mk (below_step (zq1) hb); clear HO482; clear HB; have HO482 := n0_; have HB := n1_; clear n0_ n1_; (try clear hb); (try clear hb2); (try clear hk); (try clear hi)) | ((with_reducible refine gate_callee (f := 16) rfl ?_); refine goesL_ (some 35) rfl rfl Tryz.func16 (by kernel_rfl) rfl #[.int .i64 a4, .int .i64 2] rfl (zq3) ?_; (with_reducible refine (dialtonelaw12_pick.calls a4 2 t485 _ A11.out).mono ?_); rintro e w' ⟨rfl, ⟨nd, rfl⟩⟩; refine ⟨_, rfl, ?_⟩; (try (rw [drewN_self w21]; generalize hq_ : World.drewN w21 _ = w21; have n0_ : Aside0 (Kd.R k29 29 w21 w.heap.size (fun _ => True) (.slice Ao20 t480.length co20) t480) := ⟨zr26⟩; have n1_ : Aside0 (Below w.heap.size w w21) := ⟨zr27⟩; clear HO482 HB hq_; have HO482 := n0_; have HB := n1_; clear n0_ n1_))) | ((with_reducible refine gate_callee (f := 17) rfl ?_); refine goesL_ (some 37) rfl rfl Tryz.func17 (by kernel_rfl) rfl #[.slice Ao20 t480.length co20, .int .i64 t484, .int .i64 (wrap64 (1 + t485))] rfl (zq3) ?_; (with_reducible refine (plan_Write.calls k _ _ t480 t484 (wrap64 (1 + t485)) t486 t487 _ ?side1 ?side2 ?side3 A12.out).mono ?_); (case side1 => exact zr17); (case side2 => exact (Kd.R_reads' HO482.out).2.1); (case side3 => exact zq27); rintro e w22 ⟨rfl, hb⟩; refine ⟨_, rfl, ?_⟩; have n0_ := Aside0.mk (Kd.R_below (zr16) hb); have n1_ := Aside0.mk (below_step (zq1) hb); clear HO482; clear HB; have HO482 := n0_; have HB := n1_; clear n0_ n1_; (try clear hb); (try clear hb2); (try clear hk); (try clear hi); obtain ⟨i023, hi023, _, hsz23, _⟩ := info_parts info3; obtain ⟨hcut23, hA23, hC23⟩ := print_take_of (P := Tryz.prog) (Value.int .i64) 0 25 3 .i64 Tryz.underlying25 hi023 hsz23 A1 c1 l1 (ji13) (of_decide_eq_true (zq14)) (of_decide_eq_true (zq14)) HC1.out; have HR488 := Aside0.mk (Kd.C_of_reads (h1 := fun _ => rfl) (hA23 _ (Kd.reads_of_C HR1.out))); have HC488 := Aside0.mk hC23; clear hA23 hC23 hi023 hsz23) | ((with_reducible refine gate_callee (f := 15) rfl ?_); refine goesL_ (some 46) rfl rfl Tryz.func15 (by kernel_rfl) rfl #[.slice A1 (l1.take ((ji13) : Int).toNat).length c1] rfl (by (try simp only [List.map_toArray, List.map_cons, List.map_nil]); first | done | (rw [show (l1.take ((ji13) : Int).toNat).length = (ji13).toNat from (by rw [List.length_take]; have h_ : ((ji13) : Int) ≤ (l1.length : Int) := of_decide_eq_true (zq14); omega)] <;> rfl) | (simp only [hji13]; rfl) | rfl | (simp only [List.length_drop, List.length_take]; rfl) | (simp (disch := omega) only [wrap64_of]; done) | (simp (disch := omega) only [wrap64_of]; rfl)) ?_; (with_reducible refine (dialtonelaw12_text.calls k _ _ (l1.take ((ji13) : Int).toNat) t489 _ ?side1 ?side2 A16.out).mono ?_); (case side1 => repeat (first | exact (Kd.C_below HR488.out HB.out) | (with_reducible refine Kd.C_alloc ?_ _) | (with_reducible refine Kd.C_drewN ?_ _) | (with_reducible refine Kd.C_drew ?_))); (case side2 => exact HC488.out); rintro e w24 ⟨rfl, hb⟩; refine ⟨_, rfl, ?_⟩; have n0_ := Aside0.mk (Kd.R_below (zr16) hb); have n1_ := Aside0.mk (below_step (zq1) hb); clear HO482; clear HB; have HO482 := n0_; have HB := n1_; clear n0_ n1_; (try clear hb); (try clear hb2); (try clear hk); (try clear hi)) | ((with_reducible refine gate_dst (N := 16) rfl ?_); refine box_event ?hg (N := 16) ?hd (cs := #[.int .i64 0, .int .i64 0, .int .i64 0, .int .i64 0]) (t := 44) ?hr ?_; (case hd => rfl); (case hg => rfl); (case hr => exact zq0); intro gb490 hg w25 hbox hb; have n0_ := Aside0.mk (Kd.R_below (zr16) hb); have n1_ := Aside0.mk (below_step (zq1) hb); have n2_ := Aside0.mk (hbox); have n3_ := Aside0.mk ((zq2 : w.heap.size ≤ gb490)); have n4_ := Aside0.mk ((zq2 : w.heap.size ≤ gb490)); clear HO482; clear HB; have HO482 := n0_; have HB := n1_; have BK490 := n2_; have GW490 := n3_; have GE490 := n4_; clear n0_ n1_ n2_ n3_ n4_; clear hb hbox hg; have hcz26_0 : w25.cell? ⟨gb490, 0, none⟩ = some (.int .i64 0) := (blk_cell BK490.out 0).trans rfl; have hcz26_1 : w25.cell? ⟨gb490, 1, none⟩ = some (.int .i64 0) := (blk_cell BK490.out 1).trans rfl; have hcz26_2 : w25.cell? ⟨gb490, 2, none⟩ = some (.int .i64 0) := (blk_cell BK490.out 2).trans rfl; have hcz26_3 : w25.cell? ⟨gb490, 3, none⟩ = some (.int .i64 0) := (blk_cell BK490.out 3).trans rfl; have hfz26_0 := blk_frozen BK490.out 0; have hfz26_1 := blk_frozen BK490.out 1; have hfz26_2 := blk_frozen BK490.out 2; have hfz26_3 := blk_frozen BK490.out 3))
 go_loopg [17] k (fun kq v17 w' => ∃ (x17_1 : Int) (x491000_1 : Int) (x491001_1 : Int) (x491002_1 : Int) (x491003_1 : Int), v17 = .int .i64 x17_1 ∧ Aside0 (dialtonelaw12_PlanDigits.l0 kq true t480 (wrap64 (1 + t483)) (t486 ++ t489) x17_1 x491000_1 x491001_1 x491002_1 x491003_1 = some r) ∧ Aside0 (kq ≤ k) ∧ Aside0 (Kd.R k29 29 w' w.heap.size (fun _ => True) (.slice Ao20 t480.length co20) t480) ∧ Aside0 (w'.heap[gb490]? = some (.cells #[.int .i64 x491000_1, .int .i64 x491001_1, .int .i64 x491002_1, .int .i64 x491003_1] 44 (0, 0))) ∧ Aside0 (Below w.heap.size w w'))
 case atStart => exact ⟨(0), (1), (0), (0), (0), (zq6), H', ⟨Nat.le_refl _⟩, ⟨by (with_reducible repeat (first | apply Kd.R_alloc | apply Kd.R_drewN | apply Kd.R_drew)); exact Kd.R_mono (Kd.R_far (p := ⟨gb490, 3, none⟩) (Kd.R_far (p := ⟨gb490, 2, none⟩) (Kd.R_far (p := ⟨gb490, 1, none⟩) (Kd.R_far (p := ⟨gb490, 0, none⟩) (Kd.R_types HO482.out BK490.out (by decide)) (fun _ hk => hk.2) (.int .i64 1)) (fun _ hk => hk.2) (.int .i64 0)) (fun _ hk => hk.2) (.int .i64 0)) (fun _ hk => hk.2) (.int .i64 0)) (fun _ hk => trivial)⟩, ⟨by (with_reducible repeat (first | refine blk_drewN ?_ _ | refine blk_drew ?_ | refine blk_alloc ?_ _)); refine blk_put (cs := #[.int .i64 1, .int .i64 0, .int .i64 0, .int .i64 0]) ?_ 3 _ rfl; (with_reducible repeat (first | refine blk_drewN ?_ _ | refine blk_drew ?_ | refine blk_alloc ?_ _)); refine blk_put (cs := #[.int .i64 1, .int .i64 0, .int .i64 0, .int .i64 0]) ?_ 2 _ rfl; (with_reducible repeat (first | refine blk_drewN ?_ _ | refine blk_drew ?_ | refine blk_alloc ?_ _)); refine blk_put (cs := #[.int .i64 1, .int .i64 0, .int .i64 0, .int .i64 0]) ?_ 1 _ rfl; (with_reducible repeat (first | refine blk_drewN ?_ _ | refine blk_drew ?_ | refine blk_alloc ?_ _)); refine blk_put (cs := #[.int .i64 0, .int .i64 0, .int .i64 0, .int .i64 0]) ?_ 0 _ rfl; (with_reducible repeat (first | refine blk_drewN ?_ _ | refine blk_drew ?_ | refine blk_alloc ?_ _)); exact BK490.out⟩, ⟨zr21⟩⟩
 case round =>
  clear H'
  try clear c1
  try clear p2
  try clear c6
  try clear p6
  try clear c7
  try clear c11
  try clear c12
  try clear c13
  try clear c14
  try clear c14b0
  try clear c14b1
  try clear c15
  try clear c15b0
  try clear c15b1
  try clear c16
  try clear c17
  try clear c17b0
  try clear c17b1
  try clear c17b2
  try clear hcz26_0
  try clear hcz26_1
  try clear hcz26_2
  try clear hcz26_3
  try clear hfz26_0
  try clear hfz26_1
  try clear hfz26_2
  try clear hfz26_3
  obtain ⟨x17_1, x491000_1, x491001_1, x491002_1, x491003_1, rfl, HA, HK1, HO_12, BK490, HB⟩ := hrel
  cases gk with
  | zero => exact absurd HA.out (by simp [dialtonelaw12_PlanDigits.l0])
  | succ k1 =>
   have H := HA.out
   clear HA
   simp only [dialtonelaw12_PlanDigits.l0] at H
   by_cases c27 : x17_1 ≤ ((t486 ++ t489).size : Int)
   rotate_left
   ·rw [if_neg c27] at H
    have c27b0 : decide (x17_1 ≤ ((t486 ++ t489).size : Int)) = false := decide_eq_false c27
    (try (have c27b0s := c27b0; simp only [ByteArray.size_append, Int.natCast_add] at c27b0s))
    clear c27
    obtain rfl := Option.some.inj H
    go_wp2
    go_ret
    exact ⟨zr28, zr21⟩
   rw [if_pos c27] at H
   have c27b0 : decide (x17_1 ≤ ((t486 ++ t489).size : Int)) = true := decide_eq_true c27
   (try (have c27b0s := c27b0; simp only [ByteArray.size_append, Int.natCast_add] at c27b0s))
   clear c27
   by_cases c28 : 0 ≤ x17_1
   rotate_left
   ·rw [if_neg c28] at H
    exact absurd H (by simp)
   rw [if_pos c28] at H
   have c28b0 := eq_true c28
   have c28b1 : decide (0 ≤ x17_1) = true := decide_eq_true c28
   clear c28
   have c29b0 := eq_true (of_decide_eq_true (zq14) : x17_1 ≤ ((t486 ++ t489).size : Int))
   (try (have c29b0s := c29b0; simp only [ByteArray.size_append, Int.natCast_add] at c29b0s))
   replace H := Option.bind_eq_some_iff.mp H
   obtain ⟨⟨t491, t492, t493, t494, t495⟩, A300, H⟩ := H
   try dsimp only at H
   have A30 := Aside0.mk A300
   clear A300
   have HC31 := Aside0.mk H
   clear H
   go_upto_region 13 with (first | ((with_reducible refine gate_callee (f := 21) rfl ?_); refine goesL_ (some 61) rfl rfl Tryz.func21 (by kernel_rfl) rfl #[.slice Ao20 t480.length co20, .string ((t486 ++ t489).extract 0 (x17_1 : Int).toNat), .int .i64 (wrap64 (1 + t483))] rfl (zq3) ?_; (with_reducible refine (plan_Read.calls k1 _ _ t480 ((t486 ++ t489).extract 0 (x17_1 : Int).toNat) (wrap64 (1 + t483)) t491 t492 t493 t494 t495 _ ?side1 ?side2 A30.out).mono ?_); (case side1 => exact zr18); (case side2 => exact (Kd.R_reads' HO_12.out).2.1); rintro e w32 ⟨rfl, hb⟩; refine ⟨_, rfl, ?_⟩; have n0_ := Aside0.mk (Kd.R_below (zr19) hb); have n1_ := Aside0.mk (blk_below (g := gb490) (o := .cells #[.int .i64 x491000_1, .int .i64 x491001_1, .int .i64 x491002_1, .int .i64 x491003_1] 44 (0, 0)) (zr20) hb); have n2_ := Aside0.mk (below_step (zr21) hb); clear HO_12; clear BK490; clear HB; have HO_12 := n0_; have BK490 := n1_; have HB := n2_; clear n0_ n1_ n2_; (try clear hb); (try clear hb2); (try clear hk); (try clear hi)) | ((with_reducible refine gate_dst (N := 18) rfl ?_); refine box_event ?hg (N := 18) ?hd (cs := #[.int .i64 0, .int .i64 0, .int .i64 0, .int .i64 0]) (t := 44) ?hr ?_; (case hd => rfl); (case hg => rfl); (case hr => exact zq0); intro gb496 hg w33 hbox hb; have n0_ := Aside0.mk (Kd.R_below (zr19) hb); have n1_ := Aside0.mk (blk_below (g := gb490) (o := .cells #[.int .i64 x491000_1, .int .i64 x491001_1, .int .i64 x491002_1, .int .i64 x491003_1] 44 (0, 0)) (zr20) hb); have n2_ := Aside0.mk (below_step (zr21) hb); have n3_ := Aside0.mk (hbox); have n4_ := Aside0.mk ((zr22 : w.heap.size ≤ gb496)); have n5_ := Aside0.mk ((zr22 : w.heap.size ≤ gb496)); have n6_ := Aside0.mk ((by rw [hg]; exact Nat.ne_of_lt (blk_lt (g := gb490) (o := .cells #[.int .i64 x491000_1, .int .i64 x491001_1, .int .i64 x491002_1, .int .i64 x491003_1] 44 (0, 0)) (zr20)) : gb490 ≠ gb496)); have n7_ := Aside0.mk ((by rw [hg]; exact Nat.ne_of_gt (blk_lt (g := gb490) (o := .cells #[.int .i64 x491000_1, .int .i64 x491001_1, .int .i64 x491002_1, .int .i64 x491003_1] 44 (0, 0)) (zr20)) : gb496 ≠ gb490)); clear HO_12; clear BK490; clear HB; have HO_12 := n0_; have BK490 := n1_; have HB := n2_; have BK496 := n3_; have GW496 := n4_; have GE496 := n5_; have NB490_496 := n6_; have NB496_490 := n7_; clear n0_ n1_ n2_ n3_ n4_ n5_ n6_ n7_; clear hb hbox hg; have hnb34 := NB496_490.out; have hnc34 := NB490_496.out; have hcz35_0 : w33.cell? ⟨gb496, 0, none⟩ = some (.int .i64 0) := (blk_cell BK496.out 0).trans rfl; have hcz35_1 : w33.cell? ⟨gb496, 1, none⟩ = some (.int .i64 0) := (blk_cell BK496.out 1).trans rfl; have hcz35_2 : w33.cell? ⟨gb496, 2, none⟩ = some (.int .i64 0) := (blk_cell BK496.out 2).trans rfl; have hcz35_3 : w33.cell? ⟨gb496, 3, none⟩ = some (.int .i64 0) := (blk_cell BK496.out 3).trans rfl; have hfz35_0 := blk_frozen BK496.out 0; have hfz35_1 := blk_frozen BK496.out 1; have hfz35_2 := blk_frozen BK496.out 2; have hfz35_3 := blk_frozen BK496.out 3))
   (try simp only [Act.put, List.setIfInBounds_toArray, List.set_cons_zero, List.set_cons_succ])
   go_cut [94] (fun v94 wc => ∃ (kq : Nat) (x94_30 : Bool), v94 = .bool x94_30 ∧ Aside0 (dialtonelaw12_PlanDigits.j1 kq true t480 (wrap64 (1 + t483)) (t486 ++ t489) x17_1 x94_30 t491 t492 t493 t494 = some r) ∧ Aside0 (kq ≤ k1) ∧ Aside0 (Kd.R k29 29 wc w.heap.size (fun _ => True) (.slice Ao20 t480.length co20) t480) ∧ Aside0 (wc.heap[gb490]? = some (.cells #[.int .i64 x491000_1, .int .i64 x491001_1, .int .i64 x491002_1, .int .i64 x491003_1] 44 (0, 0))) ∧ Aside0 (wc.heap[gb496]? = some (.cells #[.int .i64 t491, .int .i64 t492, .int .i64 t493, .int .i64 t494] 44 (0, 0))) ∧ Aside0 (Below w.heap.size w wc))
   case first =>
    have H := HC31.out
    clear HC31
    by_cases c36 : t495 = 0
    rotate_left
    ·rw [if_neg c36] at H
     have c36b0 : (t495 == 0) = false := beq_eq_false_iff_ne.mpr c36
     have c36b1 : (t495 != 0) = true := bne_iff_ne.mpr c36
     (first | rw [c36b0] | (simp only [i64_w, i32_w]; rw [c36b0]) | skip)
     have H' := Aside0.mk H
     clear H
     go_wp2
     go_meet
     case rel => exact ⟨_, (true), (zq6), H', ⟨zr29⟩, ⟨zr30⟩, ⟨zr31⟩, ⟨zr32⟩, ⟨zr25⟩⟩
    rw [if_pos c36] at H
    have c36b0 : (t495 == 0) = true := beq_iff_eq.mpr c36
    have c36b1 : (t495 != 0) = false := bne_eq_false_iff_eq.mpr c36
    clear c36
    (first | rw [c36b0] | (simp only [i64_w, i32_w]; rw [c36b0]) | skip)
    by_cases c37 : x491000_1 = 0
    rotate_left
    ·rw [if_neg c37] at H
     have c37b0 : (x491000_1 == 0) = false := beq_eq_false_iff_ne.mpr c37
     have c37b1 : (x491000_1 != 0) = true := bne_iff_ne.mpr c37
     by_cases c57 : x491000_1 = 2
     rotate_left
     ·rw [if_neg c57] at H
      have c57b0 : (x491000_1 == 2) = false := beq_eq_false_iff_ne.mpr c57
      have c57b1 : (x491000_1 != 2) = true := bne_iff_ne.mpr c57
      by_cases c69 : x17_1 = 0
      rotate_left
      ·rw [if_neg c69] at H
       have c69b0 : (x17_1 == 0) = false := beq_eq_false_iff_ne.mpr c69
       have c69b1 : (x17_1 != 0) = true := bne_iff_ne.mpr c69
       have H' := Aside0.mk H
       clear H
       have hnb73 := NB490_496.out
       have hnc73 := NB496_490.out
       have hcz74_0 : w33.cell? ⟨gb490, 0, none⟩ = some (.int .i64 x491000_1) := (blk_cell BK490.out 0).trans rfl
       have hcz74_1 : w33.cell? ⟨gb490, 1, none⟩ = some (.int .i64 x491001_1) := (blk_cell BK490.out 1).trans rfl
       have hcz74_2 : w33.cell? ⟨gb490, 2, none⟩ = some (.int .i64 x491002_1) := (blk_cell BK490.out 2).trans rfl
       have hcz74_3 : w33.cell? ⟨gb490, 3, none⟩ = some (.int .i64 x491003_1) := (blk_cell BK490.out 3).trans rfl
       have hfz74_0 := blk_frozen BK490.out 0
       have hfz74_1 := blk_frozen BK490.out 1
       have hfz74_2 := blk_frozen BK490.out 2
       have hfz74_3 := blk_frozen BK490.out 3
       go_wp2
       go_meet
       case rel => exact ⟨_, (false), (zq6), H', ⟨zr29⟩, ⟨zr30⟩, ⟨zr31⟩, ⟨zr32⟩, ⟨zr25⟩⟩
      rw [if_pos c69] at H
      have c69b0 : (x17_1 == 0) = true := beq_iff_eq.mpr c69
      have c69b1 : (x17_1 != 0) = false := bne_eq_false_iff_eq.mpr c69
      clear c69
      have H' := Aside0.mk H
      clear H
      have hnb70 := NB490_496.out
      have hnc70 := NB496_490.out
      have hcz71_0 : w33.cell? ⟨gb490, 0, none⟩ = some (.int .i64 x491000_1) := (blk_cell BK490.out 0).trans rfl
      have hcz71_1 : w33.cell? ⟨gb490, 1, none⟩ = some (.int .i64 x491001_1) := (blk_cell BK490.out 1).trans rfl
      have hcz71_2 : w33.cell? ⟨gb490, 2, none⟩ = some (.int .i64 x491002_1) := (blk_cell BK490.out 2).trans rfl
      have hcz71_3 : w33.cell? ⟨gb490, 3, none⟩ = some (.int .i64 x491003_1) := (blk_cell BK490.out 3).trans rfl
      have hfz71_0 := blk_frozen BK490.out 0
      have hfz71_1 := blk_frozen BK490.out 1
      have hfz71_2 := blk_frozen BK490.out 2
      have hfz71_3 := blk_frozen BK490.out 3
      have hcz72_0 : w33.cell? ⟨gb496, 0, none⟩ = some (.int .i64 0) := (blk_cell BK496.out 0).trans rfl
      have hcz72_1 : w33.cell? ⟨gb496, 1, none⟩ = some (.int .i64 0) := (blk_cell BK496.out 1).trans rfl
      have hcz72_2 : w33.cell? ⟨gb496, 2, none⟩ = some (.int .i64 0) := (blk_cell BK496.out 2).trans rfl
      have hcz72_3 : w33.cell? ⟨gb496, 3, none⟩ = some (.int .i64 0) := (blk_cell BK496.out 3).trans rfl
      have hfz72_0 := blk_frozen BK496.out 0
      have hfz72_1 := blk_frozen BK496.out 1
      have hfz72_2 := blk_frozen BK496.out 2
      have hfz72_3 := blk_frozen BK496.out 3
      go_wp2
      go_meet
      case rel => exact ⟨_, ((t491 == 2)), (zq6), H', ⟨zr29⟩, ⟨zr30⟩, ⟨zr31⟩, ⟨zr32⟩, ⟨zr25⟩⟩
     rw [if_pos c57] at H
     have c57b0 : (x491000_1 == 2) = true := beq_iff_eq.mpr c57
     have c57b1 : (x491000_1 != 2) = false := bne_eq_false_iff_eq.mpr c57
     clear c57
     by_cases c58 : (!(t491 == x491000_1) || (!(t492 == x491001_1) || (!(t493 == x491002_1) || (!(t494 == x491003_1))))) = true
     ·rw [if_pos c58] at H
      have c58b0 : (!(t491 == x491000_1) || (!(t492 == x491001_1) || (!(t493 == x491002_1) || (!(t494 == x491003_1))))) = true := c58
      clear c58
      have H' := Aside0.mk H
      clear H
      have hnb59 := NB490_496.out
      have hnc59 := NB496_490.out
      have hcz60_0 : w33.cell? ⟨gb490, 0, none⟩ = some (.int .i64 x491000_1) := (blk_cell BK490.out 0).trans rfl
      have hcz60_1 : w33.cell? ⟨gb490, 1, none⟩ = some (.int .i64 x491001_1) := (blk_cell BK490.out 1).trans rfl
      have hcz60_2 : w33.cell? ⟨gb490, 2, none⟩ = some (.int .i64 x491002_1) := (blk_cell BK490.out 2).trans rfl
      have hcz60_3 : w33.cell? ⟨gb490, 3, none⟩ = some (.int .i64 x491003_1) := (blk_cell BK490.out 3).trans rfl
      have hfz60_0 := blk_frozen BK490.out 0
      have hfz60_1 := blk_frozen BK490.out 1
      have hfz60_2 := blk_frozen BK490.out 2
      have hfz60_3 := blk_frozen BK490.out 3
      have hcz61_0 : w33.cell? ⟨gb496, 0, none⟩ = some (.int .i64 0) := (blk_cell BK496.out 0).trans rfl
      have hcz61_1 : w33.cell? ⟨gb496, 1, none⟩ = some (.int .i64 0) := (blk_cell BK496.out 1).trans rfl
      have hcz61_2 : w33.cell? ⟨gb496, 2, none⟩ = some (.int .i64 0) := (blk_cell BK496.out 2).trans rfl
      have hcz61_3 : w33.cell? ⟨gb496, 3, none⟩ = some (.int .i64 0) := (blk_cell BK496.out 3).trans rfl
      have hfz61_0 := blk_frozen BK496.out 0
      have hfz61_1 := blk_frozen BK496.out 1
      have hfz61_2 := blk_frozen BK496.out 2
      have hfz61_3 := blk_frozen BK496.out 3
      go_wp2
      go_meet
      case rel => exact ⟨_, (true), (zq6), H', ⟨zr29⟩, ⟨zr30⟩, ⟨zr31⟩, ⟨zr32⟩, ⟨zr25⟩⟩
     rw [if_neg c58] at H
     have c58b0 : (!(t491 == x491000_1) || (!(t492 == x491001_1) || (!(t493 == x491002_1) || (!(t494 == x491003_1))))) = false := by simpa using c58
     clear c58
     by_cases c62 : x17_1 = 0
     rotate_left
     ·rw [if_neg c62] at H
      have c62b0 : (x17_1 == 0) = false := beq_eq_false_iff_ne.mpr c62
      have c62b1 : (x17_1 != 0) = true := bne_iff_ne.mpr c62
      have H' := Aside0.mk H
      clear H
      have hnb66 := NB490_496.out
      have hnc66 := NB496_490.out
      have hcz67_0 : w33.cell? ⟨gb490, 0, none⟩ = some (.int .i64 x491000_1) := (blk_cell BK490.out 0).trans rfl
      have hcz67_1 : w33.cell? ⟨gb490, 1, none⟩ = some (.int .i64 x491001_1) := (blk_cell BK490.out 1).trans rfl
      have hcz67_2 : w33.cell? ⟨gb490, 2, none⟩ = some (.int .i64 x491002_1) := (blk_cell BK490.out 2).trans rfl
      have hcz67_3 : w33.cell? ⟨gb490, 3, none⟩ = some (.int .i64 x491003_1) := (blk_cell BK490.out 3).trans rfl
      have hfz67_0 := blk_frozen BK490.out 0
      have hfz67_1 := blk_frozen BK490.out 1
      have hfz67_2 := blk_frozen BK490.out 2
      have hfz67_3 := blk_frozen BK490.out 3
      have hcz68_0 : w33.cell? ⟨gb496, 0, none⟩ = some (.int .i64 0) := (blk_cell BK496.out 0).trans rfl
      have hcz68_1 : w33.cell? ⟨gb496, 1, none⟩ = some (.int .i64 0) := (blk_cell BK496.out 1).trans rfl
      have hcz68_2 : w33.cell? ⟨gb496, 2, none⟩ = some (.int .i64 0) := (blk_cell BK496.out 2).trans rfl
      have hcz68_3 : w33.cell? ⟨gb496, 3, none⟩ = some (.int .i64 0) := (blk_cell BK496.out 3).trans rfl
      have hfz68_0 := blk_frozen BK496.out 0
      have hfz68_1 := blk_frozen BK496.out 1
      have hfz68_2 := blk_frozen BK496.out 2
      have hfz68_3 := blk_frozen BK496.out 3
      go_wp2
      go_meet
      case rel => exact ⟨_, (false), (zq6), H', ⟨zr29⟩, ⟨zr30⟩, ⟨zr31⟩, ⟨zr32⟩, ⟨zr25⟩⟩
     rw [if_pos c62] at H
     have c62b0 : (x17_1 == 0) = true := beq_iff_eq.mpr c62
     have c62b1 : (x17_1 != 0) = false := bne_eq_false_iff_eq.mpr c62
     clear c62
     have H' := Aside0.mk H
     clear H
     have hnb63 := NB490_496.out
     have hnc63 := NB496_490.out
     have hcz64_0 : w33.cell? ⟨gb490, 0, none⟩ = some (.int .i64 x491000_1) := (blk_cell BK490.out 0).trans rfl
     have hcz64_1 : w33.cell? ⟨gb490, 1, none⟩ = some (.int .i64 x491001_1) := (blk_cell BK490.out 1).trans rfl
     have hcz64_2 : w33.cell? ⟨gb490, 2, none⟩ = some (.int .i64 x491002_1) := (blk_cell BK490.out 2).trans rfl
     have hcz64_3 : w33.cell? ⟨gb490, 3, none⟩ = some (.int .i64 x491003_1) := (blk_cell BK490.out 3).trans rfl
     have hfz64_0 := blk_frozen BK490.out 0
     have hfz64_1 := blk_frozen BK490.out 1
     have hfz64_2 := blk_frozen BK490.out 2
     have hfz64_3 := blk_frozen BK490.out 3
     have hcz65_0 : w33.cell? ⟨gb496, 0, none⟩ = some (.int .i64 0) := (blk_cell BK496.out 0).trans rfl
     have hcz65_1 : w33.cell? ⟨gb496, 1, none⟩ = some (.int .i64 0) := (blk_cell BK496.out 1).trans rfl
     have hcz65_2 : w33.cell? ⟨gb496, 2, none⟩ = some (.int .i64 0) := (blk_cell BK496.out 2).trans rfl
     have hcz65_3 : w33.cell? ⟨gb496, 3, none⟩ = some (.int .i64 0) := (blk_cell BK496.out 3).trans rfl
     have hfz65_0 := blk_frozen BK496.out 0
     have hfz65_1 := blk_frozen BK496.out 1
     have hfz65_2 := blk_frozen BK496.out 2
     have hfz65_3 := blk_frozen BK496.out 3
     go_wp2
     go_meet
     case rel => exact ⟨_, ((t491 == 2)), (zq6), H', ⟨zr29⟩, ⟨zr30⟩, ⟨zr31⟩, ⟨zr32⟩, ⟨zr25⟩⟩
    rw [if_pos c37] at H
    have c37b0 : (x491000_1 == 0) = true := beq_iff_eq.mpr c37
    have c37b1 : (x491000_1 != 0) = false := bne_eq_false_iff_eq.mpr c37
    clear c37
    by_cases c38 : (!(t491 == x491000_1) || (!(t492 == x491001_1) || (!(t493 == x491002_1) || (!(t494 == x491003_1))))) = true
    ·rw [if_pos c38] at H
     have c38b0 : (!(t491 == x491000_1) || (!(t492 == x491001_1) || (!(t493 == x491002_1) || (!(t494 == x491003_1))))) = true := c38
     clear c38
     have H' := Aside0.mk H
     clear H
     have hnb39 := NB490_496.out
     have hnc39 := NB496_490.out
     have hcz40_0 : w33.cell? ⟨gb490, 0, none⟩ = some (.int .i64 x491000_1) := (blk_cell BK490.out 0).trans rfl
     have hcz40_1 : w33.cell? ⟨gb490, 1, none⟩ = some (.int .i64 x491001_1) := (blk_cell BK490.out 1).trans rfl
     have hcz40_2 : w33.cell? ⟨gb490, 2, none⟩ = some (.int .i64 x491002_1) := (blk_cell BK490.out 2).trans rfl
     have hcz40_3 : w33.cell? ⟨gb490, 3, none⟩ = some (.int .i64 x491003_1) := (blk_cell BK490.out 3).trans rfl
     have hfz40_0 := blk_frozen BK490.out 0
     have hfz40_1 := blk_frozen BK490.out 1
     have hfz40_2 := blk_frozen BK490.out 2
     have hfz40_3 := blk_frozen BK490.out 3
     have hcz41_0 : w33.cell? ⟨gb496, 0, none⟩ = some (.int .i64 0) := (blk_cell BK496.out 0).trans rfl
     have hcz41_1 : w33.cell? ⟨gb496, 1, none⟩ = some (.int .i64 0) := (blk_cell BK496.out 1).trans rfl
     have hcz41_2 : w33.cell? ⟨gb496, 2, none⟩ = some (.int .i64 0) := (blk_cell BK496.out 2).trans rfl
     have hcz41_3 : w33.cell? ⟨gb496, 3, none⟩ = some (.int .i64 0) := (blk_cell BK496.out 3).trans rfl
     have hfz41_0 := blk_frozen BK496.out 0
     have hfz41_1 := blk_frozen BK496.out 1
     have hfz41_2 := blk_frozen BK496.out 2
     have hfz41_3 := blk_frozen BK496.out 3
     go_wp2
     go_meet
     case rel => exact ⟨_, (true), (zq6), H', ⟨zr29⟩, ⟨zr30⟩, ⟨zr31⟩, ⟨zr32⟩, ⟨zr25⟩⟩
    rw [if_neg c38] at H
    have c38b0 : (!(t491 == x491000_1) || (!(t492 == x491001_1) || (!(t493 == x491002_1) || (!(t494 == x491003_1))))) = false := by simpa using c38
    clear c38
    by_cases c42 : x491000_1 = 2
    rotate_left
    ·rw [if_neg c42] at H
     have c42b0 : (x491000_1 == 2) = false := beq_eq_false_iff_ne.mpr c42
     have c42b1 : (x491000_1 != 2) = true := bne_iff_ne.mpr c42
     by_cases c50 : x17_1 = 0
     rotate_left
     ·rw [if_neg c50] at H
      have c50b0 : (x17_1 == 0) = false := beq_eq_false_iff_ne.mpr c50
      have c50b1 : (x17_1 != 0) = true := bne_iff_ne.mpr c50
      have H' := Aside0.mk H
      clear H
      have hnb54 := NB490_496.out
      have hnc54 := NB496_490.out
      have hcz55_0 : w33.cell? ⟨gb490, 0, none⟩ = some (.int .i64 x491000_1) := (blk_cell BK490.out 0).trans rfl
      have hcz55_1 : w33.cell? ⟨gb490, 1, none⟩ = some (.int .i64 x491001_1) := (blk_cell BK490.out 1).trans rfl
      have hcz55_2 : w33.cell? ⟨gb490, 2, none⟩ = some (.int .i64 x491002_1) := (blk_cell BK490.out 2).trans rfl
      have hcz55_3 : w33.cell? ⟨gb490, 3, none⟩ = some (.int .i64 x491003_1) := (blk_cell BK490.out 3).trans rfl
      have hfz55_0 := blk_frozen BK490.out 0
      have hfz55_1 := blk_frozen BK490.out 1
      have hfz55_2 := blk_frozen BK490.out 2
      have hfz55_3 := blk_frozen BK490.out 3
      have hcz56_0 : w33.cell? ⟨gb496, 0, none⟩ = some (.int .i64 0) := (blk_cell BK496.out 0).trans rfl
      have hcz56_1 : w33.cell? ⟨gb496, 1, none⟩ = some (.int .i64 0) := (blk_cell BK496.out 1).trans rfl
      have hcz56_2 : w33.cell? ⟨gb496, 2, none⟩ = some (.int .i64 0) := (blk_cell BK496.out 2).trans rfl
      have hcz56_3 : w33.cell? ⟨gb496, 3, none⟩ = some (.int .i64 0) := (blk_cell BK496.out 3).trans rfl
      have hfz56_0 := blk_frozen BK496.out 0
      have hfz56_1 := blk_frozen BK496.out 1
      have hfz56_2 := blk_frozen BK496.out 2
      have hfz56_3 := blk_frozen BK496.out 3
      go_wp2
      go_meet
      case rel => exact ⟨_, (false), (zq6), H', ⟨zr29⟩, ⟨zr30⟩, ⟨zr31⟩, ⟨zr32⟩, ⟨zr25⟩⟩
     rw [if_pos c50] at H
     have c50b0 : (x17_1 == 0) = true := beq_iff_eq.mpr c50
     have c50b1 : (x17_1 != 0) = false := bne_eq_false_iff_eq.mpr c50
     clear c50
     have H' := Aside0.mk H
     clear H
     have hnb51 := NB490_496.out
     have hnc51 := NB496_490.out
     have hcz52_0 : w33.cell? ⟨gb490, 0, none⟩ = some (.int .i64 x491000_1) := (blk_cell BK490.out 0).trans rfl
     have hcz52_1 : w33.cell? ⟨gb490, 1, none⟩ = some (.int .i64 x491001_1) := (blk_cell BK490.out 1).trans rfl
     have hcz52_2 : w33.cell? ⟨gb490, 2, none⟩ = some (.int .i64 x491002_1) := (blk_cell BK490.out 2).trans rfl
     have hcz52_3 : w33.cell? ⟨gb490, 3, none⟩ = some (.int .i64 x491003_1) := (blk_cell BK490.out 3).trans rfl
     have hfz52_0 := blk_frozen BK490.out 0
     have hfz52_1 := blk_frozen BK490.out 1
     have hfz52_2 := blk_frozen BK490.out 2
     have hfz52_3 := blk_frozen BK490.out 3
     have hcz53_0 : w33.cell? ⟨gb496, 0, none⟩ = some (.int .i64 0) := (blk_cell BK496.out 0).trans rfl
     have hcz53_1 : w33.cell? ⟨gb496, 1, none⟩ = some (.int .i64 0) := (blk_cell BK496.out 1).trans rfl
     have hcz53_2 : w33.cell? ⟨gb496, 2, none⟩ = some (.int .i64 0) := (blk_cell BK496.out 2).trans rfl
     have hcz53_3 : w33.cell? ⟨gb496, 3, none⟩ = some (.int .i64 0) := (blk_cell BK496.out 3).trans rfl
     have hfz53_0 := blk_frozen BK496.out 0
     have hfz53_1 := blk_frozen BK496.out 1
     have hfz53_2 := blk_frozen BK496.out 2
     have hfz53_3 := blk_frozen BK496.out 3
     go_wp2
     go_meet
     case rel => exact ⟨_, ((t491 == 2)), (zq6), H', ⟨zr29⟩, ⟨zr30⟩, ⟨zr31⟩, ⟨zr32⟩, ⟨zr25⟩⟩
    rw [if_pos c42] at H
    have c42b0 : (x491000_1 == 2) = true := beq_iff_eq.mpr c42
    have c42b1 : (x491000_1 != 2) = false := bne_eq_false_iff_eq.mpr c42
    clear c42
    by_cases c43 : x17_1 = 0
    rotate_left
    ·rw [if_neg c43] at H
     have c43b0 : (x17_1 == 0) = false := beq_eq_false_iff_ne.mpr c43
     have c43b1 : (x17_1 != 0) = true := bne_iff_ne.mpr c43
     have H' := Aside0.mk H
     clear H
     have hnb47 := NB490_496.out
     have hnc47 := NB496_490.out
     have hcz48_0 : w33.cell? ⟨gb490, 0, none⟩ = some (.int .i64 x491000_1) := (blk_cell BK490.out 0).trans rfl
     have hcz48_1 : w33.cell? ⟨gb490, 1, none⟩ = some (.int .i64 x491001_1) := (blk_cell BK490.out 1).trans rfl
     have hcz48_2 : w33.cell? ⟨gb490, 2, none⟩ = some (.int .i64 x491002_1) := (blk_cell BK490.out 2).trans rfl
     have hcz48_3 : w33.cell? ⟨gb490, 3, none⟩ = some (.int .i64 x491003_1) := (blk_cell BK490.out 3).trans rfl
     have hfz48_0 := blk_frozen BK490.out 0
     have hfz48_1 := blk_frozen BK490.out 1
     have hfz48_2 := blk_frozen BK490.out 2
     have hfz48_3 := blk_frozen BK490.out 3
     have hcz49_0 : w33.cell? ⟨gb496, 0, none⟩ = some (.int .i64 0) := (blk_cell BK496.out 0).trans rfl
     have hcz49_1 : w33.cell? ⟨gb496, 1, none⟩ = some (.int .i64 0) := (blk_cell BK496.out 1).trans rfl
     have hcz49_2 : w33.cell? ⟨gb496, 2, none⟩ = some (.int .i64 0) := (blk_cell BK496.out 2).trans rfl
     have hcz49_3 : w33.cell? ⟨gb496, 3, none⟩ = some (.int .i64 0) := (blk_cell BK496.out 3).trans rfl
     have hfz49_0 := blk_frozen BK496.out 0
     have hfz49_1 := blk_frozen BK496.out 1
     have hfz49_2 := blk_frozen BK496.out 2
     have hfz49_3 := blk_frozen BK496.out 3
     go_wp2
     go_meet
     case rel => exact ⟨_, (false), (zq6), H', ⟨zr29⟩, ⟨zr30⟩, ⟨zr31⟩, ⟨zr32⟩, ⟨zr25⟩⟩
    rw [if_pos c43] at H
    have c43b0 : (x17_1 == 0) = true := beq_iff_eq.mpr c43
    have c43b1 : (x17_1 != 0) = false := bne_eq_false_iff_eq.mpr c43
    clear c43
    have H' := Aside0.mk H
    clear H
    have hnb44 := NB490_496.out
    have hnc44 := NB496_490.out
    have hcz45_0 : w33.cell? ⟨gb490, 0, none⟩ = some (.int .i64 x491000_1) := (blk_cell BK490.out 0).trans rfl
    have hcz45_1 : w33.cell? ⟨gb490, 1, none⟩ = some (.int .i64 x491001_1) := (blk_cell BK490.out 1).trans rfl
    have hcz45_2 : w33.cell? ⟨gb490, 2, none⟩ = some (.int .i64 x491002_1) := (blk_cell BK490.out 2).trans rfl
    have hcz45_3 : w33.cell? ⟨gb490, 3, none⟩ = some (.int .i64 x491003_1) := (blk_cell BK490.out 3).trans rfl
    have hfz45_0 := blk_frozen BK490.out 0
    have hfz45_1 := blk_frozen BK490.out 1
    have hfz45_2 := blk_frozen BK490.out 2
    have hfz45_3 := blk_frozen BK490.out 3
    have hcz46_0 : w33.cell? ⟨gb496, 0, none⟩ = some (.int .i64 0) := (blk_cell BK496.out 0).trans rfl
    have hcz46_1 : w33.cell? ⟨gb496, 1, none⟩ = some (.int .i64 0) := (blk_cell BK496.out 1).trans rfl
    have hcz46_2 : w33.cell? ⟨gb496, 2, none⟩ = some (.int .i64 0) := (blk_cell BK496.out 2).trans rfl
    have hcz46_3 : w33.cell? ⟨gb496, 3, none⟩ = some (.int .i64 0) := (blk_cell BK496.out 3).trans rfl
    have hfz46_0 := blk_frozen BK496.out 0
    have hfz46_1 := blk_frozen BK496.out 1
    have hfz46_2 := blk_frozen BK496.out 2
    have hfz46_3 := blk_frozen BK496.out 3
    go_wp2
    go_meet
    case rel => exact ⟨_, ((t491 == 2)), (zq6), H', ⟨zr29⟩, ⟨zr30⟩, ⟨zr31⟩, ⟨zr32⟩, ⟨zr25⟩⟩
   case rest =>
    clear HC31
    try clear c1
    try clear c2
    try clear p2
    try clear c3
    try clear c4
    try clear c5
    try clear c6
    try clear p6
    try clear c7
    try clear c11
    try clear c12
    try clear c13
    try clear c14
    try clear c14b0
    try clear c14b1
    try clear c15
    try clear c15b0
    try clear c15b1
    try clear c16
    try clear c17
    try clear c17b0
    try clear c17b1
    try clear c17b2
    try clear c21
    try clear c27
    try clear c27b0
    try clear c28
    try clear c28b0
    try clear c28b1
    try clear c29
    try clear c29b0
    try clear c34
    try clear c36
    try clear c36b0
    try clear c36b1
    try clear c37
    try clear c37b0
    try clear c37b1
    try clear c38
    try clear c38b0
    try clear c39
    try clear c42
    try clear c42b0
    try clear c42b1
    try clear c43
    try clear c43b0
    try clear c43b1
    try clear c44
    try clear c47
    try clear c50
    try clear c50b0
    try clear c50b1
    try clear c51
    try clear c54
    try clear c57
    try clear c57b0
    try clear c57b1
    try clear c58
    try clear c58b0
    try clear c59
    try clear c62
    try clear c62b0
    try clear c62b1
    try clear c63
    try clear p64
    try clear c66
    try clear c69
    try clear c69b0
    try clear c69b1
    try clear c70
    try clear c73
    try clear hcz26_0
    try clear hcz26_1
    try clear hcz26_2
    try clear hcz26_3
    try clear hcz35_0
    try clear hcz35_1
    try clear hcz35_2
    try clear hcz35_3
    try clear hcz40_0
    try clear hcz40_1
    try clear hcz40_2
    try clear hcz40_3
    try clear hcz41_0
    try clear hcz41_1
    try clear hcz41_2
    try clear hcz41_3
    try clear hcz45_0
    try clear hcz45_1
    try clear hcz45_2
    try clear hcz45_3
    try clear hcz46_0
    try clear hcz46_1
    try clear hcz46_2
    try clear hcz46_3
    try clear hcz48_0
    try clear hcz48_1
    try clear hcz48_2
    try clear hcz48_3
    try clear hcz49_0
    try clear hcz49_1
    try clear hcz49_2
    try clear hcz49_3
    try clear hcz52_0
    try clear hcz52_1
    try clear hcz52_2
    try clear hcz52_3
    try clear hcz53_0
    try clear hcz53_1
    try clear hcz53_2
    try clear hcz53_3
    try clear hcz55_0
    try clear hcz55_1
    try clear hcz55_2
    try clear hcz55_3
    try clear hcz56_0
    try clear hcz56_1
    try clear hcz56_2
    try clear hcz56_3
    try clear hcz60_0
    try clear hcz60_1
    try clear hcz60_2
    try clear hcz60_3
    try clear hcz61_0
    try clear hcz61_1
    try clear hcz61_2
    try clear hcz61_3
    try clear hcz64_0
    try clear hcz64_1
    try clear hcz64_2
    try clear hcz64_3
    try clear hcz65_0
    try clear hcz65_1
    try clear hcz65_2
    try clear hcz65_3
    try clear hcz67_0
    try clear hcz67_1
    try clear hcz67_2
    try clear hcz67_3
    try clear hcz68_0
    try clear hcz68_1
    try clear hcz68_2
    try clear hcz68_3
    try clear hcz71_0
    try clear hcz71_1
    try clear hcz71_2
    try clear hcz71_3
    try clear hcz72_0
    try clear hcz72_1
    try clear hcz72_2
    try clear hcz72_3
    try clear hcz74_0
    try clear hcz74_1
    try clear hcz74_2
    try clear hcz74_3
    try clear hfz26_0
    try clear hfz26_1
    try clear hfz26_2
    try clear hfz26_3
    try clear hfz35_0
    try clear hfz35_1
    try clear hfz35_2
    try clear hfz35_3
    try clear hfz40_0
    try clear hfz40_1
    try clear hfz40_2
    try clear hfz40_3
    try clear hfz41_0
    try clear hfz41_1
    try clear hfz41_2
    try clear hfz41_3
    try clear hfz45_0
    try clear hfz45_1
    try clear hfz45_2
    try clear hfz45_3
    try clear hfz46_0
    try clear hfz46_1
    try clear hfz46_2
    try clear hfz46_3
    try clear hfz48_0
    try clear hfz48_1
    try clear hfz48_2
    try clear hfz48_3
    try clear hfz49_0
    try clear hfz49_1
    try clear hfz49_2
    try clear hfz49_3
    try clear hfz52_0
    try clear hfz52_1
    try clear hfz52_2
    try clear hfz52_3
    try clear hfz53_0
    try clear hfz53_1
    try clear hfz53_2
    try clear hfz53_3
    try clear hfz55_0
    try clear hfz55_1
    try clear hfz55_2
    try clear hfz55_3
    try clear hfz56_0
    try clear hfz56_1
    try clear hfz56_2
    try clear hfz56_3
    try clear hfz60_0
    try clear hfz60_1
    try clear hfz60_2
    try clear hfz60_3
    try clear hfz61_0
    try clear hfz61_1
    try clear hfz61_2
    try clear hfz61_3
    try clear hfz64_0
    try clear hfz64_1
    try clear hfz64_2
    try clear hfz64_3
    try clear hfz65_0
    try clear hfz65_1
    try clear hfz65_2
    try clear hfz65_3
    try clear hfz67_0
    try clear hfz67_1
    try clear hfz67_2
    try clear hfz67_3
    try clear hfz68_0
    try clear hfz68_1
    try clear hfz68_2
    try clear hfz68_3
    try clear hfz71_0
    try clear hfz71_1
    try clear hfz71_2
    try clear hfz71_3
    try clear hfz72_0
    try clear hfz72_1
    try clear hfz72_2
    try clear hfz72_3
    try clear hfz74_0
    try clear hfz74_1
    try clear hfz74_2
    try clear hfz74_3
    try clear p2
    try clear p6
    obtain ⟨kq, x94_30, rfl, HA, HJ30, HO_12, BK490, BK496, HB⟩ := hcut
    cases kq with
    | zero => exact absurd HA.out (by simp [dialtonelaw12_PlanDigits.j1])
    | succ kj30 =>
     have H := HA.out
     clear HA
     simp only [dialtonelaw12_PlanDigits.j1] at H
     by_cases c75 : x94_30 = true
     ·subst c75
      rw [if_pos rfl] at H
      obtain rfl := Option.some.inj H
      go_wp2
      go_ret
      exact ⟨zr28, zr25⟩
     replace c75 := Bool.eq_false_iff.mpr c75
     subst c75
     rw [if_neg (show ¬ (false = true) by decide)] at H
     have HC76 := Aside0.mk H
     clear H
     go_upto_region 15 with (fail)
     go_cut [106] (fun v106 wc => ∃ (kq : Nat) (x106_75 : Bool), v106 = .bool x106_75 ∧ Aside0 (dialtonelaw12_PlanDigits.j2 kq true t480 (wrap64 (1 + t483)) (t486 ++ t489) x17_1 x106_75 t491 t492 t493 t494 = some r) ∧ Aside0 (kq ≤ kj30) ∧ Aside0 (Kd.R k29 29 wc w.heap.size (fun _ => True) (.slice Ao20 t480.length co20) t480) ∧ Aside0 (wc.heap[gb490]? = some (.cells #[.int .i64 x491000_1, .int .i64 x491001_1, .int .i64 x491002_1, .int .i64 x491003_1] 44 (0, 0))) ∧ Aside0 (wc.heap[gb496]? = some (.cells #[.int .i64 t491, .int .i64 t492, .int .i64 t493, .int .i64 t494] 44 (0, 0))) ∧ Aside0 (Below w.heap.size w wc))
     case first =>
      have H := HC76.out
      clear HC76
      by_cases c77 : t491 = 1
      rotate_left
      ·rw [if_neg c77] at H
       have c77b0 : (t491 == 1) = false := beq_eq_false_iff_ne.mpr c77
       have c77b1 : (t491 != 1) = true := bne_iff_ne.mpr c77
       (first | rw [c77b0] | (simp only [i64_w, i32_w]; rw [c77b0]) | skip)
       have H' := Aside0.mk H
       clear H
       have hnb84 := NB496_490.out
       have hnc84 := NB490_496.out
       have hcz85_0 : wc.cell? ⟨gb496, 0, none⟩ = some (.int .i64 t491) := (blk_cell BK496.out 0).trans rfl
       have hcz85_1 : wc.cell? ⟨gb496, 1, none⟩ = some (.int .i64 t492) := (blk_cell BK496.out 1).trans rfl
       have hcz85_2 : wc.cell? ⟨gb496, 2, none⟩ = some (.int .i64 t493) := (blk_cell BK496.out 2).trans rfl
       have hcz85_3 : wc.cell? ⟨gb496, 3, none⟩ = some (.int .i64 t494) := (blk_cell BK496.out 3).trans rfl
       have hfz85_0 := blk_frozen BK496.out 0
       have hfz85_1 := blk_frozen BK496.out 1
       have hfz85_2 := blk_frozen BK496.out 2
       have hfz85_3 := blk_frozen BK496.out 3
       go_wp2
       go_meet
       case rel => exact ⟨_, (false), (zq6), H', ⟨zr33⟩, ⟨zr19⟩, ⟨zr20⟩, ⟨zr24⟩, ⟨zr25⟩⟩
      rw [if_pos c77] at H
      have c77b0 : (t491 == 1) = true := beq_iff_eq.mpr c77
      have c77b1 : (t491 != 1) = false := bne_eq_false_iff_eq.mpr c77
      clear c77
      (first | rw [c77b0] | (simp only [i64_w, i32_w]; rw [c77b0]) | skip)
      by_cases c78 : 0 ≤ x17_1
      rotate_left
      ·rw [if_neg c78] at H
       exact absurd H (by simp)
      rw [if_pos c78] at H
      have c78b0 := eq_true c78
      have c78b1 : decide (0 ≤ x17_1) = true := decide_eq_true c78
      clear c78
      by_cases c79 : x17_1 ≤ ((t486 ++ t489).size : Int)
      rotate_left
      ·rw [if_neg c79] at H
       exact absurd H (by simp)
      rw [if_pos c79] at H
      have c79b0 := eq_true c79
      (try (have c79b0s := c79b0; simp only [ByteArray.size_append, Int.natCast_add] at c79b0s))
      have c79b1 : decide (x17_1 ≤ ((t486 ++ t489).size : Int)) = true := decide_eq_true c79
      (try (have c79b1s := c79b1; simp only [ByteArray.size_append, Int.natCast_add] at c79b1s))
      replace H := Option.bind_eq_some_iff.mp H
      obtain ⟨t497, A800, H⟩ := H
      try dsimp only at H
      have A80 := Aside0.mk A800
      clear A800
      have H' := Aside0.mk H
      clear H
      have hnb81 := NB496_490.out
      have hnc81 := NB490_496.out
      have hcz82_0 : wc.cell? ⟨gb496, 0, none⟩ = some (.int .i64 t491) := (blk_cell BK496.out 0).trans rfl
      have hcz82_1 : wc.cell? ⟨gb496, 1, none⟩ = some (.int .i64 t492) := (blk_cell BK496.out 1).trans rfl
      have hcz82_2 : wc.cell? ⟨gb496, 2, none⟩ = some (.int .i64 t493) := (blk_cell BK496.out 2).trans rfl
      have hcz82_3 : wc.cell? ⟨gb496, 3, none⟩ = some (.int .i64 t494) := (blk_cell BK496.out 3).trans rfl
      have hfz82_0 := blk_frozen BK496.out 0
      have hfz82_1 := blk_frozen BK496.out 1
      have hfz82_2 := blk_frozen BK496.out 2
      have hfz82_3 := blk_frozen BK496.out 3
      go_wp2_with (first | (go_at_call 28; (first | (with_reducible refine (dialtonelaw12_completed.calls kj30 _ _ t480 ((t486 ++ t489).extract 0 (x17_1 : Int).toNat) (wrap64 (1 + t483)) t497 _ ?side1 ?side2 A80.out).mono ?_) | (refine calls_of_args (args' := #[.slice Ao20 t480.length co20, .string ((t486 ++ t489).extract 0 (x17_1 : Int).toNat), .int .i64 (wrap64 (1 + t483))]) (zq31) ?_; (with_reducible refine (dialtonelaw12_completed.calls kj30 _ _ t480 ((t486 ++ t489).extract 0 (x17_1 : Int).toNat) (wrap64 (1 + t483)) t497 _ ?side1 ?side2 A80.out).mono ?_))); (case side1 => exact zr18); (case side2 => exact (Kd.R_reads' HO_12.out).2.1); rintro e w83 ⟨rfl, hb⟩; have n0_ := Aside0.mk (Kd.R_below (zr19) hb); have n1_ := Aside0.mk (blk_below (g := gb490) (o := .cells #[.int .i64 x491000_1, .int .i64 x491001_1, .int .i64 x491002_1, .int .i64 x491003_1] 44 (0, 0)) (zr20) hb); have n2_ := Aside0.mk (blk_below (g := gb496) (o := .cells #[.int .i64 t491, .int .i64 t492, .int .i64 t493, .int .i64 t494] 44 (0, 0)) (zr24) hb); have n3_ := Aside0.mk (below_step (zr25) hb); clear HO_12; clear BK490; clear BK496; clear HB; have HO_12 := n0_; have BK490 := n1_; have BK496 := n2_; have HB := n3_; clear n0_ n1_ n2_ n3_; (try clear hb); (try clear hb2); (try clear hk); (try clear hi)))
      go_meet
      case rel => exact ⟨_, (!t497), (zq6), H', ⟨zr33⟩, ⟨zr19⟩, ⟨zr20⟩, ⟨zr24⟩, ⟨zr25⟩⟩
     case rest =>
      clear HC76
      try clear c1
      try clear c2
      try clear p2
      try clear c3
      try clear c4
      try clear c5
      try clear c6
      try clear p6
      try clear c7
      try clear c8
      try clear c11
      try clear c12
      try clear c13
      try clear c14
      try clear c14b0
      try clear c14b1
      try clear c15
      try clear c15b0
      try clear c15b1
      try clear c16
      try clear c17
      try clear c17b0
      try clear c17b1
      try clear c17b2
      try clear c21
      try clear c27
      try clear c27b0
      try clear c28
      try clear c28b0
      try clear c28b1
      try clear c29
      try clear c29b0
      try clear c34
      try clear c36
      try clear c36b0
      try clear c36b1
      try clear c37
      try clear c37b0
      try clear c37b1
      try clear c38
      try clear c38b0
      try clear c39
      try clear c42
      try clear c42b0
      try clear c42b1
      try clear c43
      try clear c43b0
      try clear c43b1
      try clear c44
      try clear c47
      try clear c50
      try clear c50b0
      try clear c50b1
      try clear c51
      try clear c54
      try clear c57
      try clear c57b0
      try clear c57b1
      try clear c58
      try clear c58b0
      try clear c59
      try clear c62
      try clear c62b0
      try clear c62b1
      try clear c63
      try clear p64
      try clear c66
      try clear c69
      try clear c69b0
      try clear c69b1
      try clear c70
      try clear c73
      try clear c75
      try clear c77
      try clear c77b0
      try clear c77b1
      try clear c78
      try clear c78b0
      try clear c78b1
      try clear c79
      try clear c79b0
      try clear c79b1
      try clear c81
      try clear c84
      try clear hcz26_0
      try clear hcz26_1
      try clear hcz26_2
      try clear hcz26_3
      try clear hcz35_0
      try clear hcz35_1
      try clear hcz35_2
      try clear hcz35_3
      try clear hcz40_0
      try clear hcz40_1
      try clear hcz40_2
      try clear hcz40_3
      try clear hcz41_0
      try clear hcz41_1
      try clear hcz41_2
      try clear hcz41_3
      try clear hcz45_0
      try clear hcz45_1
      try clear hcz45_2
      try clear hcz45_3
      try clear hcz46_0
      try clear hcz46_1
      try clear hcz46_2
      try clear hcz46_3
      try clear hcz48_0
      try clear hcz48_1
      try clear hcz48_2
      try clear hcz48_3
      try clear hcz49_0
      try clear hcz49_1
      try clear hcz49_2
      try clear hcz49_3
      try clear hcz52_0
      try clear hcz52_1
      try clear hcz52_2
      try clear hcz52_3
      try clear hcz53_0
      try clear hcz53_1
      try clear hcz53_2
      try clear hcz53_3
      try clear hcz55_0
      try clear hcz55_1
      try clear hcz55_2
      try clear hcz55_3
      try clear hcz56_0
      try clear hcz56_1
      try clear hcz56_2
      try clear hcz56_3
      try clear hcz60_0
      try clear hcz60_1
      try clear hcz60_2
      try clear hcz60_3
      try clear hcz61_0
      try clear hcz61_1
      try clear hcz61_2
      try clear hcz61_3
      try clear hcz64_0
      try clear hcz64_1
      try clear hcz64_2
      try clear hcz64_3
      try clear hcz65_0
      try clear hcz65_1
      try clear hcz65_2
      try clear hcz65_3
      try clear hcz67_0
      try clear hcz67_1
      try clear hcz67_2
      try clear hcz67_3
      try clear hcz68_0
      try clear hcz68_1
      try clear hcz68_2
      try clear hcz68_3
      try clear hcz71_0
      try clear hcz71_1
      try clear hcz71_2
      try clear hcz71_3
      try clear hcz72_0
      try clear hcz72_1
      try clear hcz72_2
      try clear hcz72_3
      try clear hcz74_0
      try clear hcz74_1
      try clear hcz74_2
      try clear hcz74_3
      try clear hcz82_0
      try clear hcz82_1
      try clear hcz82_2
      try clear hcz82_3
      try clear hcz85_0
      try clear hcz85_1
      try clear hcz85_2
      try clear hcz85_3
      try clear hfz26_0
      try clear hfz26_1
      try clear hfz26_2
      try clear hfz26_3
      try clear hfz35_0
      try clear hfz35_1
      try clear hfz35_2
      try clear hfz35_3
      try clear hfz40_0
      try clear hfz40_1
      try clear hfz40_2
      try clear hfz40_3
      try clear hfz41_0
      try clear hfz41_1
      try clear hfz41_2
      try clear hfz41_3
      try clear hfz45_0
      try clear hfz45_1
      try clear hfz45_2
      try clear hfz45_3
      try clear hfz46_0
      try clear hfz46_1
      try clear hfz46_2
      try clear hfz46_3
      try clear hfz48_0
      try clear hfz48_1
      try clear hfz48_2
      try clear hfz48_3
      try clear hfz49_0
      try clear hfz49_1
      try clear hfz49_2
      try clear hfz49_3
      try clear hfz52_0
      try clear hfz52_1
      try clear hfz52_2
      try clear hfz52_3
      try clear hfz53_0
      try clear hfz53_1
      try clear hfz53_2
      try clear hfz53_3
      try clear hfz55_0
      try clear hfz55_1
      try clear hfz55_2
      try clear hfz55_3
      try clear hfz56_0
      try clear hfz56_1
      try clear hfz56_2
      try clear hfz56_3
      try clear hfz60_0
      try clear hfz60_1
      try clear hfz60_2
      try clear hfz60_3
      try clear hfz61_0
      try clear hfz61_1
      try clear hfz61_2
      try clear hfz61_3
      try clear hfz64_0
      try clear hfz64_1
      try clear hfz64_2
      try clear hfz64_3
      try clear hfz65_0
      try clear hfz65_1
      try clear hfz65_2
      try clear hfz65_3
      try clear hfz67_0
      try clear hfz67_1
      try clear hfz67_2
      try clear hfz67_3
      try clear hfz68_0
      try clear hfz68_1
      try clear hfz68_2
      try clear hfz68_3
      try clear hfz71_0
      try clear hfz71_1
      try clear hfz71_2
      try clear hfz71_3
      try clear hfz72_0
      try clear hfz72_1
      try clear hfz72_2
      try clear hfz72_3
      try clear hfz74_0
      try clear hfz74_1
      try clear hfz74_2
      try clear hfz74_3
      try clear hfz82_0
      try clear hfz82_1
      try clear hfz82_2
      try clear hfz82_3
      try clear hfz85_0
      try clear hfz85_1
      try clear hfz85_2
      try clear hfz85_3
      try clear p2
      try clear p6
      try clear p64
      obtain ⟨kq, x106_75, rfl, HA, HJ75, HO_12, BK490, BK496, HB⟩ := hcut
      cases kq with
      | zero => exact absurd HA.out (by simp [dialtonelaw12_PlanDigits.j2])
      | succ kj75 =>
       have H := HA.out
       clear HA
       simp only [dialtonelaw12_PlanDigits.j2] at H
       by_cases c86 : x106_75 = true
       ·subst c86
        rw [if_pos rfl] at H
        obtain rfl := Option.some.inj H
        go_wp2
        go_ret
        exact ⟨zr28, zr25⟩
       replace c86 := Bool.eq_false_iff.mpr c86
       subst c86
       rw [if_neg (show ¬ (false = true) by decide)] at H
       by_cases c87 : t491 = 2
       rotate_left
       ·rw [if_neg c87] at H
        have c87b0 : (t491 == 2) = false := beq_eq_false_iff_ne.mpr c87
        have c87b1 : (t491 != 2) = true := bne_iff_ne.mpr c87
        have H' := Aside0.mk H
        clear H
        have hnb94 := NB496_490.out
        have hnc94 := NB490_496.out
        have hcz95_0 : wc.cell? ⟨gb496, 0, none⟩ = some (.int .i64 t491) := (blk_cell BK496.out 0).trans rfl
        have hcz95_1 : wc.cell? ⟨gb496, 1, none⟩ = some (.int .i64 t492) := (blk_cell BK496.out 1).trans rfl
        have hcz95_2 : wc.cell? ⟨gb496, 2, none⟩ = some (.int .i64 t493) := (blk_cell BK496.out 2).trans rfl
        have hcz95_3 : wc.cell? ⟨gb496, 3, none⟩ = some (.int .i64 t494) := (blk_cell BK496.out 3).trans rfl
        have hfz95_0 := blk_frozen BK496.out 0
        have hfz95_1 := blk_frozen BK496.out 1
        have hfz95_2 := blk_frozen BK496.out 2
        have hfz95_3 := blk_frozen BK496.out 3
        have hcz96_0 : wc.cell? ⟨gb490, 0, none⟩ = some (.int .i64 x491000_1) := (blk_cell BK490.out 0).trans rfl
        have hcz96_1 : wc.cell? ⟨gb490, 1, none⟩ = some (.int .i64 x491001_1) := (blk_cell BK490.out 1).trans rfl
        have hcz96_2 : wc.cell? ⟨gb490, 2, none⟩ = some (.int .i64 x491002_1) := (blk_cell BK490.out 2).trans rfl
        have hcz96_3 : wc.cell? ⟨gb490, 3, none⟩ = some (.int .i64 x491003_1) := (blk_cell BK490.out 3).trans rfl
        have hfz96_0 := blk_frozen BK490.out 0
        have hfz96_1 := blk_frozen BK490.out 1
        have hfz96_2 := blk_frozen BK490.out 2
        have hfz96_3 := blk_frozen BK490.out 3
        go_wp2
        go_roundg kj75
        case measure => have := HK1.out; have := HJ30.out; have := HJ75.out; omega
        case rel => exact ⟨(wrap64 (x17_1 + 1)), (t491), (t492), (t493), (t494), (zq6), H', ⟨zr34⟩, ⟨zr35⟩, ⟨zr36⟩, ⟨zr25⟩⟩
       rw [if_pos c87] at H
       have c87b0 : (t491 == 2) = true := beq_iff_eq.mpr c87
       have c87b1 : (t491 != 2) = false := bne_eq_false_iff_eq.mpr c87
       clear c87
       by_cases c88 : t494 > x17_1
       ·rw [if_pos c88] at H
        have c88b0 : decide (x17_1 < t494) = true := decide_eq_true c88
        clear c88
        obtain rfl := Option.some.inj H
        have hnb89 := NB496_490.out
        have hnc89 := NB490_496.out
        have hcz90_0 : wc.cell? ⟨gb496, 0, none⟩ = some (.int .i64 t491) := (blk_cell BK496.out 0).trans rfl
        have hcz90_1 : wc.cell? ⟨gb496, 1, none⟩ = some (.int .i64 t492) := (blk_cell BK496.out 1).trans rfl
        have hcz90_2 : wc.cell? ⟨gb496, 2, none⟩ = some (.int .i64 t493) := (blk_cell BK496.out 2).trans rfl
        have hcz90_3 : wc.cell? ⟨gb496, 3, none⟩ = some (.int .i64 t494) := (blk_cell BK496.out 3).trans rfl
        have hfz90_0 := blk_frozen BK496.out 0
        have hfz90_1 := blk_frozen BK496.out 1
        have hfz90_2 := blk_frozen BK496.out 2
        have hfz90_3 := blk_frozen BK496.out 3
        go_wp2
        go_ret
        exact ⟨zr28, zr25⟩
       rw [if_neg c88] at H
       have c88b0 : decide (x17_1 < t494) = false := decide_eq_false c88
       clear c88
       have H' := Aside0.mk H
       clear H
       have hnb91 := NB496_490.out
       have hnc91 := NB490_496.out
       have hcz92_0 : wc.cell? ⟨gb496, 0, none⟩ = some (.int .i64 t491) := (blk_cell BK496.out 0).trans rfl
       have hcz92_1 : wc.cell? ⟨gb496, 1, none⟩ = some (.int .i64 t492) := (blk_cell BK496.out 1).trans rfl
       have hcz92_2 : wc.cell? ⟨gb496, 2, none⟩ = some (.int .i64 t493) := (blk_cell BK496.out 2).trans rfl
       have hcz92_3 : wc.cell? ⟨gb496, 3, none⟩ = some (.int .i64 t494) := (blk_cell BK496.out 3).trans rfl
       have hfz92_0 := blk_frozen BK496.out 0
       have hfz92_1 := blk_frozen BK496.out 1
       have hfz92_2 := blk_frozen BK496.out 2
       have hfz92_3 := blk_frozen BK496.out 3
       have hcz93_0 : wc.cell? ⟨gb490, 0, none⟩ = some (.int .i64 x491000_1) := (blk_cell BK490.out 0).trans rfl
       have hcz93_1 : wc.cell? ⟨gb490, 1, none⟩ = some (.int .i64 x491001_1) := (blk_cell BK490.out 1).trans rfl
       have hcz93_2 : wc.cell? ⟨gb490, 2, none⟩ = some (.int .i64 x491002_1) := (blk_cell BK490.out 2).trans rfl
       have hcz93_3 : wc.cell? ⟨gb490, 3, none⟩ = some (.int .i64 x491003_1) := (blk_cell BK490.out 3).trans rfl
       have hfz93_0 := blk_frozen BK490.out 0
       have hfz93_1 := blk_frozen BK490.out 1
       have hfz93_2 := blk_frozen BK490.out 2
       have hfz93_3 := blk_frozen BK490.out 3
       go_wp2
       go_roundg kj75
       case measure => have := HK1.out; have := HJ30.out; have := HJ75.out; omega
       case rel => exact ⟨(wrap64 (x17_1 + 1)), (t491), (t492), (t493), (t494), (zq6), H', ⟨zr34⟩, ⟨zr35⟩, ⟨zr36⟩, ⟨zr25⟩⟩
end Go.Proofs.YtlmfoblgheepoaaGreatDoor.Pl
end
section
namespace Go.Proofs.YtlmfoblgheepoaaGreatDoor.Pure
open Go.RowKit Go.Proofs.YtlmfoblgheepoaaGreatDoorW.PrintWords Go.Proofs.YtlmfoblgheepoaaGreatDoorW.PrintLast Go.Proofs.YtlmfoblgheepoaaGreatDoorW.PrintMore Go.Proofs.YtlmfoblgheepoaaGreatDoor.Pl
set_option linter.unusedVariables false
set_option linter.unusedSimpArgs false
theorem dg_of {b : UInt8} (h : isD b = true) : dg (b.toNat - 48) = b := by
  have := (isD_iff b).mp h
  apply UInt8.toNat_inj.mp
  rw [dg_toNat]; omega
theorem digitVal_of {b : UInt8} (h : isD b = true) : Lib.digitVal b = some (b.toNat - 48) := by
  have := (isD_iff b).mp h
  unfold Lib.digitVal
  rw [if_pos this]
theorem decFrom_val : ∀ (l : D) (a : Nat), digs l = true → Lib.decFrom a l = some (valF a l)
  | [], a, _ => rfl
  | b :: r, a, h => by
    have hb : isD b = true ∧ digs r = true := by simpa [digs] using h
    rw [Lib.decFrom, digitVal_of hb.1, valF_cons]
    exact decFrom_val r _ hb.2
theorem atoi_val (l : D) (h : digs l = true) (h0 : l ≠ []) : Lib.atoi l = some (val l : Int) := by
  cases l with
  | nil => exact absurd rfl h0
  | cons b r =>
    have hb : isD b = true ∧ digs r = true := by simpa [digs] using h
    have hb' := (isD_iff b).mp hb.1
    have n1 : (b == 45) = false := by
      rw [beq_eq_false_iff_ne]; intro e; subst e; simp at hb'
    have n2 : (b == 43) = false := by
      rw [beq_eq_false_iff_ne]; intro e; subst e; simp at hb'
    rw [Lib.atoi, n1, n2]
    simp only [Bool.false_eq_true, if_false]
    rw [Lib.decNat]
    simp only [List.isEmpty_cons, Bool.false_eq_true, if_false]
    rw [decFrom_val _ _ h]
    rfl
theorem atoi_eq (s : ByteArray) (h : s.size ≤ 18) (hd : digs s.data.toList = true) (h0 : 1 ≤ s.size) : strconv_Atoi.f s = some ((val s.data.toList : Int), none) := by
  unfold strconv_Atoi.f
  rw [if_pos h, atoi_val _ hd]
  · rfl
  · intro e; rw [Lib.size_eq, e] at h0; simp at h0
end Go.Proofs.YtlmfoblgheepoaaGreatDoor.Pure
end
section
namespace Go.Proofs.YtlmfoblgheepoaaGreatDoor.Pure
open Go.RowKit Go.Proofs.YtlmfoblgheepoaaGreatDoorW.PrintWords Go.Proofs.YtlmfoblgheepoaaGreatDoorW.PrintLast Go.Proofs.YtlmfoblgheepoaaGreatDoorW.PrintMore Go.Proofs.YtlmfoblgheepoaaGreatDoor.Pl
set_option linter.unusedVariables false
set_option linter.unusedSimpArgs false
theorem b_of (s : ByteArray) : b s.data.toList = s := ba_ext (by rw [b_data])
theorem b_append (x y : D) : b x ++ b y = b (x ++ y) := ba_ext (by simp [b_data])
end Go.Proofs.YtlmfoblgheepoaaGreatDoor.Pure
end
section
namespace Go.Proofs.YtlmfoblgheepoaaGreatDoor.Pure
open Go.RowKit Go.Proofs.YtlmfoblgheepoaaGreatDoorW.PrintWords Go.Proofs.YtlmfoblgheepoaaGreatDoorW.PrintLast Go.Proofs.YtlmfoblgheepoaaGreatDoorW.PrintMore Go.Proofs.YtlmfoblgheepoaaGreatDoor.Pl
set_option linter.unusedVariables false
set_option linter.unusedSimpArgs false
structure EnOk (e : En) : Prop where
  kd : digs e.key = true
  sd : digs e.st = true
  k1 : 1 ≤ e.key.length
  s1 : 1 ≤ e.st.length
  kl : (e.key.length : Int) < e.len
  l8 : e.len ≤ 8
  tot : (e.st.length : Int) + (e.len - e.key.length) = 8
  key5 : e.key.length ≤ 5
theorem digs_rep (n : Nat) : digs (List.replicate n 48) = true := by
  unfold digs; rw [List.all_replicate]; simp; right; decide
theorem eOld_ok {c : S29} (h : One c) (i : Nat) : EnOk (eOld i c) := by
  have a1 := h.o1; have a2 := h.o4; have a3 := h.n1; have a4 := h.n5; have a5 := h.l1; have a6 := h.l7; have a7 := h.rm
  refine ⟨h.od, ?_, h.o1, ?_, h.l1, ?_, ?_, ?_⟩
  · simp only [eOld]; rw [digs_append, h.nd, digs_rep]; rfl
  · simp only [eOld]; rw [List.length_append]; omega
  · simp only [eOld]; omega
  · simp only [eOld, zs]; rw [List.length_append, List.length_replicate]; omega
  · simp only [eOld]; omega
theorem eNew_ok {c : S29} (h : One c) (i : Nat) : EnOk (eNew i c) := by
  have a1 := h.o1; have a2 := h.o4; have a3 := h.n1; have a4 := h.n5; have a5 := h.l1; have a6 := h.l7; have a7 := h.rm
  refine ⟨h.nd, h.nd, h.n1, h.n1, ?_, ?_, ?_, ?_⟩ <;> simp only [eNew] <;> omega
theorem es_ok {c : S29} (h : One c) {ph : Int} {i : Nat} {e : En} (he : e ∈ es ph i c) : EnOk e := by
  unfold es at he
  rcases List.mem_append.mp he with he | he
  · split at he
    · rw [List.mem_singleton.mp he]; exact eOld_ok h i
    · cases he
  · split at he
    · rw [List.mem_singleton.mp he]; exact eNew_ok h i
    · cases he
theorem ents_ok {ph : Int} : ∀ {p : List S29} {i : Nat} {e : En}, (∀ c ∈ p, One c) → e ∈ ents ph p i → EnOk e
  | [], _, _, _, he => by cases he
  | c :: r, i, e, hp, he => by
    rcases List.mem_append.mp he with he | he
    · exact es_ok (hp c List.mem_cons_self) he
    · exact ents_ok (fun x hx => hp x (List.mem_cons_of_mem _ hx)) he
def hitS (e : En) (d : D) : Int × Int × Int × Int × Int :=
  if (d.length : Int) < e.len then (1, 0, 0, 0, 0) else (2, (val (e.st ++ (d.drop e.key.length).take (e.len.toNat - e.key.length)) : Int), e.idx, e.len, 0)
def rE (l : List En) (d : D) : Int × Int × Int × Int × Int :=
  match l.find? (fun e => e.key.isPrefixOf d) with
  | some e => hitS e d
  | none => if l.any (fun e => d.isPrefixOf e.key) = true then (1, 0, 0, 0, 0) else (0, 0, 0, 0, 0)
def rS (p : List S29) (d : D) (ph : Int) : Int × Int × Int × Int × Int := rE (ents ph p 0) d
def toB (e : En) : ByteArray × Ent := (b e.key, (e.idx, e.len, b e.st))
theorem entGo_eq (ph : Int) : ∀ (p : List S29) (i : Nat) (L : List (ByteArray × Ent)), (∀ c ∈ p, One c) → entGo ph p i L = some (((ents ph p i).map toB).reverse ++ L)
  | [], i, L, _ => rfl
  | c :: r, i, L, h => by
    have hc := h c List.mem_cons_self
    have e0 : c.f0.size = (co c).length := Lib.size_eq _
    have e1 : c.f1.size = (cn c).length := Lib.size_eq _
    have a1 := hc.o1; have a2 := hc.o4; have a3 := hc.n1; have a4 := hc.n5; have a5 := hc.l1; have a6 := hc.l7; have a7 := hc.rm
    rw [entGo, ents]
    have hst : entStep ph c i L = some (((es ph i c).map toB).reverse ++ L) := by
      unfold entStep
      rw [if_pos ⟨by omega, by omega⟩]
      unfold es
      have bo : b (co c) = c.f0 := b_of _
      have bn : b (cn c) = c.f1 := b_of _
      by_cases h3 : ph = 3
      · by_cases h1 : ph = 1
        · omega
        · simp [h3, h1, toB, eNew, bn]
      · have hz : strings_Repeat.f (⟨#[48]⟩ : ByteArray) (wrap64 (wrap64 (8 - (c.f1.size : Int)) - (c.f2 - ((co c).length : Int)))) = some (b (List.replicate (zs c) 48)) := by
          rw [e1, w64 (n := 8 - ((cn c).length : Int)) (by omega) (by omega), w64 (by omega) (by omega)]
          unfold strings_Repeat.f
          have hone : (⟨#[48]⟩ : ByteArray).size = 1 := rfl
          rw [if_pos ⟨by omega, by omega, by rw [hone]; omega⟩]
          have := Lib.repeatL_replicate (48 : UInt8) 1 (zs c)
          simp only [Nat.mul_one] at this
          have e' : Lib.repeatL (⟨#[48]⟩ : ByteArray).data.toList (8 - ((cn c).length : Int) - (c.f2 - ((co c).length : Int))).toNat = List.replicate (zs c) 48 := this
          rw [e']; rfl
        have hsz : c.f1.size + (b (List.replicate (zs c) 48)).size ≤ 9223372036854775807 := by
          rw [b_size, List.length_replicate]; unfold zs; omega
        have hb : c.f1 ++ b (List.replicate (zs c) 48) = b (cn c ++ List.replicate (zs c) 48) := by rw [← bn, b_append]
        have hr : plan_room.f c.f0 c.f1 c.f2 = some (c.f2 - ((co c).length : Int)) := by unfold plan_room.f; rw [e0, w64 (by omega) (by omega)]
        by_cases h1 : ph = 1
        · simp only [ne_eq, h3, h1, not_false_eq_true, if_true, hr, Option.bind_some, hz, hsz, hb]
          simp [toB, eOld, bo]
        · simp only [ne_eq, h3, h1, not_false_eq_true, if_true, hr, Option.bind_some, hz, hsz, hb]
          simp [toB, eOld, eNew, bo, bn]
    rw [hst, Option.bind_some, entGo_eq ph r (i + 1) _ (fun x hx => h x (List.mem_cons_of_mem _ hx))]
    simp
theorem b_inj {x y : D} (h : b x = b y) : x = y := by rw [← b_data x, h, b_data]
theorem look_some {l : List En} (h : l.Pairwise (fun e f => apt e.key f.key = true)) {e : En} (he : e ∈ l) : lookE ((l.map toB).reverse ++ []) (b e.key) = some (e.idx, e.len, b e.st) := by
  unfold lookE
  have hm : toB e ∈ ((l.map toB).reverse ++ []) := by simp; exact ⟨e, he, rfl⟩
  cases hf : (((l.map toB).reverse ++ []).find? (fun p : ByteArray × Ent => decide (p.1 = b e.key))) with
  | none =>
    have := List.find?_eq_none.mp hf (toB e) hm
    simp [toB] at this
  | some y =>
    have h1 := List.find?_some hf
    have h2 := List.mem_of_find?_eq_some hf
    simp at h2
    obtain ⟨f, hf', rfl⟩ := h2
    simp [toB] at h1
    have := b_inj (of_decide_eq_true h1)
    rcases pair_eq h he hf' with h3 | h3
    · rw [← h3]; rfl
    · rw [apt_iff, this] at h3
      exact absurd (List.prefix_refl _) h3.1
theorem look_none {l : List En} {s : D} (h : ∀ e ∈ l, e.key ≠ s) : lookE ((l.map toB).reverse ++ []) (b s) = none := by
  unfold lookE
  rw [Option.map_eq_none_iff, List.find?_eq_none]
  intro x hx
  simp at hx
  obtain ⟨f, hf, rfl⟩ := hx
  simp [toB]
  exact decide_eq_false (fun e => h f hf (b_inj e))
theorem ext_take (d : D) (k : Nat) : (b d).extract 0 k = b (d.take k) := by
  apply ba_ext; rw [Lib.extract_data, b_data, b_data]; simp
theorem loop_none {l : List En} {d : D} (h : ∀ e ∈ l, ¬ e.key <+: d) : ∀ m k, readLoop ((l.map toB).reverse ++ []) (b d) m k = some none
  | 0, k => rfl
  | m + 1, k => by
    rw [readLoop, ext_take, look_none (fun e he hk => h e he (by rw [hk]; exact List.take_prefix _ _))]
    exact loop_none h m (k + 1)
theorem loop_hit {l : List En} (h : l.Pairwise (fun e f => apt e.key f.key = true)) {d : D} (hd : digs d = true) (hl : d.length ≤ 16) {e : En} (he : e ∈ l) (ho : EnOk e) (hp : e.key <+: d) : ∀ m k, k ≤ e.key.length → e.key.length < m + k →
    readLoop ((l.map toB).reverse ++ []) (b d) m k = some (some ((hitS e d).1, (hitS e d).2.1, (hitS e d).2.2.1, (hitS e d).2.2.2.1))
  | 0, k, h1, h2 => by omega
  | m + 1, k, h1, h2 => by
    rw [readLoop, ext_take]
    have hkl := hp.length_le
    by_cases hk : k = e.key.length
    · have : d.take k = e.key := by rw [hk]; exact (List.prefix_iff_eq_take.mp hp).symm
      rw [this, look_some h he]
      simp only [b_size]
      have b1 := ho.kl; have b2 := ho.l8; have b3 := ho.tot; have b4 := ho.key5; have b5 := ho.s1
      unfold hitS
      by_cases hs : (d.length : Int) < e.len
      · simp only [hs, if_true]
      · simp only [hs, if_false]
        have ex : ((b d).extract k e.len.toNat).data.toList = (d.drop e.key.length).take (e.len.toNat - e.key.length) := by rw [Lib.extract_data, b_data, hk]
        have exl : ((b d).extract k e.len.toNat).size = e.len.toNat - e.key.length := by rw [Lib.size_eq, ex, List.length_take, List.length_drop]; omega
        have eb : (b e.st ++ (b d).extract k e.len.toNat) = b (e.st ++ (d.drop e.key.length).take (e.len.toNat - e.key.length)) := by
          apply ba_ext; simp only [ByteArray.data_append, Array.toList_append, ex, b_data]
        rw [if_pos ⟨by omega, by omega, by omega⟩, eb]
        have hdig : digs (e.st ++ (d.drop e.key.length).take (e.len.toNat - e.key.length)) = true := by
          rw [digs_append, ho.sd, Bool.true_and]
          unfold digs at hd ⊢
          rw [List.all_eq_true] at hd ⊢
          exact fun x hx => hd x (List.mem_of_mem_drop (List.mem_of_mem_take hx))
        have hlen : (e.st ++ (d.drop e.key.length).take (e.len.toNat - e.key.length)).length = 8 := by rw [List.length_append, List.length_take, List.length_drop]; omega
        rw [atoi_eq _ (by rw [b_size, hlen]; omega) (by rw [b_data]; exact hdig) (by rw [b_size, hlen]; omega)]
        simp only [Option.bind_some, b_data]
    · have : ∀ f ∈ l, f.key ≠ d.take k := by
        intro f hf hkey
        have hfp : f.key <+: d := by rw [hkey]; exact List.take_prefix _ _
        have := pair_hit h he hf hp hfp
        rw [← this] at hkey
        have : e.key.length = k := by rw [hkey, List.length_take]; omega
        omega
      rw [look_none this]
      exact loop_hit h hd hl he ho hp m (k + 1) (by omega) (by omega)
theorem any_eq (l : List En) (d : D) : (((l.map toB).reverse ++ []).any (fun p => Lib.hasPrefix p.1.data.toList (b d).data.toList)) = l.any (fun e => d.isPrefixOf e.key) := by
  unfold Lib.hasPrefix
  simp only [List.append_nil, List.any_reverse, List.any_map, b_data]
  have : ((fun p : ByteArray × Ent => d.isPrefixOf p.1.data.toList) ∘ toB) = (fun e => d.isPrefixOf e.key) := by funext e; simp [toB, b_data]
  simp [Function.comp_def, toB, b_data]
theorem hit5 (e : En) (d : D) : ((hitS e d).1, (hitS e d).2.1, (hitS e d).2.2.1, (hitS e d).2.2.2.1, (0 : Int)) = hitS e d := by
  unfold hitS; split <;> rfl
theorem rest_eq (p : List S29) (hv : vp p = true) (ph : Int) (d : D) (hd : digs d = true) (hl : d.length ≤ 16) : plan_ReadRest p (b d) ph = some (rS p d ph) := by
  have h20 := vp_len hv
  have ho : ∀ c ∈ p, One c := fun c hc => vp_one hv hc
  have hpair := ents_pair (ph := ph) (i := 0) (vp_pair hv) ho
  unfold plan_ReadRest
  rw [if_pos ⟨by omega, by rw [b_size]; omega⟩, entGo_eq ph p 0 [] ho, Option.bind_some]
  unfold rS rE
  cases hf : (ents ph p 0).find? (fun e => e.key.isPrefixOf d) with
  | none =>
    have hn : ∀ e ∈ ents ph p 0, ¬ e.key <+: d := by
      intro e he hp
      have := List.find?_eq_none.mp hf e he
      rw [List.isPrefixOf_iff_prefix] at this
      exact this hp
    rw [loop_none hn, Option.bind_some]
    simp only [readEnd, any_eq]
  | some e =>
    have h1 := List.find?_some hf
    have h2 := List.mem_of_find?_eq_some hf
    rw [List.isPrefixOf_iff_prefix] at h1
    have hk := h1.length_le
    rw [loop_hit hpair hd hl h2 (ents_ok ho h2) h1 _ 0 (by omega) (by rw [b_size]; omega), Option.bind_some]
    simp only [readEnd, hit5]
theorem read_ev (p : List S29) (hv : vp p = true) (ph : Int) (hp : okPh ph = true) (d : D) (hd : digs d = true) (hl : d.length ≤ 16) : Ev (fun k => plan_Read.f k p (b d) ph) (rS p d ph) := by
  have h20 := vp_len hv
  unfold plan_Read.f
  refine Ev.bind (valid_ev p (by omega) (vp_small hv)) ?_
  have h1 : ¬ (16 : Int) < (d.length : Int) := by omega
  simp only [hv, if_true, isDigits_eq (b d) (by rw [b_size]; omega), b_data, hd, Option.bind_some, b_size, h1, if_false, isPhase_eq, hp, rest_eq p hv ph d hd hl]
  exact Ev.now _
end Go.Proofs.YtlmfoblgheepoaaGreatDoor.Pure
end
section
namespace Go.Proofs.YtlmfoblgheepoaaGreatDoor.Pure
open Go.RowKit Go.Proofs.YtlmfoblgheepoaaGreatDoorW.PrintWords Go.Proofs.YtlmfoblgheepoaaGreatDoorW.PrintLast Go.Proofs.YtlmfoblgheepoaaGreatDoorW.PrintMore Go.Proofs.YtlmfoblgheepoaaGreatDoor.Pl
set_option linter.unusedVariables false
set_option linter.unusedSimpArgs false
def Ints1 (l : List Int) : Prop := ∀ x ∈ l, J64 x
theorem text_from (l : List Int) (hl : Ints1 l) : ∀ m i : Nat, m + i = l.length → ∀ s : D, digs s = true → s.length = i → i ≤ 17 → ∃ t : D, digs t = true ∧ t.length = min 17 l.length ∧ Ev (fun k => dialtonelaw12_text.l0 k l (b s) (i : Int)) (b t) := by
  intro m
  induction m with
  | zero =>
    intro i hi s hd hs h17
    refine ⟨s, hd, by omega, Ev.step (fun k => by rw [dialtonelaw12_text.l0]) ?_⟩
    have h1 : ¬ ((i : Int) < l.length) := by omega
    simp only [h1, if_false]
    exact Ev.now _
  | succ m ih =>
    intro i hi s hd hs h17
    have h1 : ((i : Int) < l.length) := by omega
    have hil : i < l.length := by omega
    by_cases h : i < 17
    · have h2 : ((i : Int) < 17) := by omega
      have h3 : (0 : Int) ≤ i := by omega
      have hr : rd l (i : Int) = l[i] := by unfold rd; simp [hil]
      obtain ⟨r, lr, er⟩ := pick_lt l[i] (hl _ (List.getElem_mem hil)) 10 (by decide)
      have er' : dialtonelaw12_pick.f l[i] 10 = some (r : Int) := er
      have hb : strOfNums [wrap64 (48 + (r : Int)) % 256] = b [dg r] := by
        have := one_dig r
        rw [Int.tmod_eq_emod_of_nonneg (by omega)] at this
        have e : (r : Int) % 10 = r := by omega
        rw [e] at this
        exact this
      obtain ⟨t, ht1, ht2, ht3⟩ := ih (i + 1) (by omega) (s ++ [dg r]) (by rw [digs_append, hd]; simp [digs, dg_isD]) (by simp; omega) (by omega)
      refine ⟨t, ht1, ht2, Ev.step (fun k => by rw [dialtonelaw12_text.l0]) ?_⟩
      have h4 : (b s).size + (b [dg r]).size ≤ 9223372036854775807 := by rw [b_size, b_size]; simp; omega
      simp only [h1, h2, h3, if_true, hr, er', Option.bind_some, hb, h4, b_append, wi i (by omega)]
      exact ht3
    · have h2 : ¬ ((i : Int) < 17) := by omega
      refine ⟨s, hd, by omega, Ev.step (fun k => by rw [dialtonelaw12_text.l0]) ?_⟩
      simp only [h1, h2, if_true, if_false]
      exact Ev.now _
theorem text_ev (l : List Int) (hl : Ints1 l) : ∃ t : D, digs t = true ∧ t.length = min 17 l.length ∧ Ev (fun k => dialtonelaw12_text.f k l) (b t) := by
  obtain ⟨t, h1, h2, h3⟩ := text_from l hl l.length 0 (by omega) [] rfl rfl (by omega)
  exact ⟨t, h1, h2, by simpa [dialtonelaw12_text.f, b] using h3⟩
theorem text_take (l : List Int) (hl : Ints1 l) (n : Nat) (hn : n ≤ 17) (hlen : l.length ≤ 9223372036854775807) : ∃ t : D, digs t = true ∧ t.length ≤ n ∧ (0 : Int) ≤ mn (l.length : Int) n ∧ mn (l.length : Int) n ≤ l.length ∧ Ev (fun k => dialtonelaw12_text.f k (l.take (mn (l.length : Int) n).toNat)) (b t) := by
  obtain ⟨t, h1, h2, h3⟩ := text_ev (l.take (mn (l.length : Int) n).toNat) (fun x hx => hl x (List.mem_of_mem_take hx))
  have hm : 0 ≤ mn (l.length : Int) n ∧ mn (l.length : Int) n ≤ l.length ∧ mn (l.length : Int) n ≤ n := by unfold mn; split <;> omega
  refine ⟨t, h1, ?_, hm.1, hm.2.1, h3⟩
  rw [h2, List.length_take]; omega
end Go.Proofs.YtlmfoblgheepoaaGreatDoor.Pure
end
section
namespace Go.Proofs.YtlmfoblgheepoaaGreatDoor.Pure
open Go.RowKit Go.Proofs.YtlmfoblgheepoaaGreatDoorW.PrintWords Go.Proofs.YtlmfoblgheepoaaGreatDoorW.PrintLast Go.Proofs.YtlmfoblgheepoaaGreatDoorW.PrintMore Go.Proofs.YtlmfoblgheepoaaGreatDoor.Pl
set_option linter.unusedVariables false
set_option linter.unusedSimpArgs false
theorem rE_hit {l : List En} (h : l.Pairwise (fun e f => apt e.key f.key = true)) {e : En} (he : e ∈ l) {d : D} (hp : e.key <+: d) : rE l d = hitS e d := by
  unfold rE
  cases hf : l.find? (fun e => e.key.isPrefixOf d) with
  | none =>
    have := List.find?_eq_none.mp hf e he
    rw [List.isPrefixOf_iff_prefix] at this
    exact absurd hp this
  | some f =>
    have h1 := List.find?_some hf
    have h2 := List.mem_of_find?_eq_some hf
    rw [List.isPrefixOf_iff_prefix] at h1
    rw [pair_hit h he h2 hp h1]
theorem rE_miss {l : List En} {d : D} (hn : ∀ e ∈ l, ¬ e.key <+: d) : rE l d = if l.any (fun e => d.isPrefixOf e.key) = true then (1, 0, 0, 0, 0) else (0, 0, 0, 0, 0) := by
  unfold rE
  cases hf : l.find? (fun e => e.key.isPrefixOf d) with
  | none => rfl
  | some f =>
    have h1 := List.find?_some hf
    have h2 := List.mem_of_find?_eq_some hf
    rw [List.isPrefixOf_iff_prefix] at h1
    exact absurd h1 (hn f h2)
theorem rE_cases (l : List En) (d : D) : (∃ e ∈ l, e.key <+: d) ∨ (∀ e ∈ l, ¬ e.key <+: d) := by
  by_cases h : ∃ e ∈ l, e.key <+: d
  · exact .inl h
  · exact .inr (fun e he hp => h ⟨e, he, hp⟩)
theorem any_pre (l : List En) (d : D) : l.any (fun e => d.isPrefixOf e.key) = true ↔ ∃ e ∈ l, d <+: e.key := by
  rw [List.any_eq_true]
  constructor
  · rintro ⟨e, he, h⟩; exact ⟨e, he, List.isPrefixOf_iff_prefix.mp h⟩
  · rintro ⟨e, he, h⟩; exact ⟨e, he, List.isPrefixOf_iff_prefix.mpr h⟩
theorem hit_more {e : En} {d : D} (h : (d.length : Int) < e.len) : hitS e d = (1, 0, 0, 0, 0) := by unfold hitS; rw [if_pos h]
theorem hit_num {e : En} {d : D} (h : ¬ (d.length : Int) < e.len) : hitS e d = (2, (val (e.st ++ (d.drop e.key.length).take (e.len.toNat - e.key.length)) : Int), e.idx, e.len, 0) := by unfold hitS; rw [if_neg h]
theorem rE_kind {l : List En} (h : l.Pairwise (fun e f => apt e.key f.key = true)) (d : D) :
    (rE l d = (0, 0, 0, 0, 0) ∧ (∀ e ∈ l, ¬ e.key <+: d) ∧ (∀ e ∈ l, ¬ d <+: e.key)) ∨ (rE l d = (1, 0, 0, 0, 0) ∧ ((∃ e ∈ l, e.key <+: d ∧ (d.length : Int) < e.len) ∨ ((∀ e ∈ l, ¬ e.key <+: d) ∧ ∃ e ∈ l, d <+: e.key))) ∨ (∃ e ∈ l, e.key <+: d ∧ ¬ (d.length : Int) < e.len ∧ rE l d = hitS e d) := by
  rcases rE_cases l d with ⟨e, he, hp⟩ | hn
  · have := rE_hit h he hp
    by_cases hl : (d.length : Int) < e.len
    · exact .inr (.inl ⟨by rw [this, hit_more hl], .inl ⟨e, he, hp, hl⟩⟩)
    · exact .inr (.inr ⟨e, he, hp, hl, this⟩)
  · have := rE_miss hn
    by_cases ha : l.any (fun e => d.isPrefixOf e.key) = true
    · exact .inr (.inl ⟨by rw [this, if_pos ha], .inr ⟨hn, (any_pre l d).mp ha⟩⟩)
    · refine .inl ⟨by rw [this, if_neg ha], hn, fun e he hp => ha ((any_pre l d).mpr ⟨e, he, hp⟩)⟩
theorem digs_take {s : D} (h : digs s = true) (n : Nat) : digs (s.take n) = true := by
  unfold digs at h ⊢; rw [List.all_eq_true] at h ⊢; exact fun x hx => h x (List.mem_of_mem_take hx)
end Go.Proofs.YtlmfoblgheepoaaGreatDoor.Pure
end
section
namespace Go.Proofs.YtlmfoblgheepoaaGreatDoor.Pure
open Go.RowKit Go.Proofs.YtlmfoblgheepoaaGreatDoorW.PrintWords Go.Proofs.YtlmfoblgheepoaaGreatDoorW.PrintLast Go.Proofs.YtlmfoblgheepoaaGreatDoorW.PrintMore Go.Proofs.YtlmfoblgheepoaaGreatDoor.Pl
set_option linter.unusedVariables false
set_option linter.unusedSimpArgs false
theorem wS_first {p : List S29} (hv : vp p = true) (m : Nat) (ph : Int) : digs (wS p m ph).1 = true ∧ (wS p m ph).1.length ≤ 8 := by
  rcases wS_form hv m ph with hW | ⟨f, e, hW, hF⟩
  · rw [hW]; exact ⟨rfl, by decide⟩
  · rw [hW]
    refine ⟨hF.dig, ?_⟩
    have := hF.len
    by_cases h : ph = 1
    · have := hF.old h; show f.length ≤ 8; omega
    · have := (hF.new h).1; show f.length ≤ 8; omega
end Go.Proofs.YtlmfoblgheepoaaGreatDoor.Pure
end
