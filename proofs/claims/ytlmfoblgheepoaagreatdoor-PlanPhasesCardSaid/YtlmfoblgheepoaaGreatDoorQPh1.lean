/- Ph: part 2 of the proof that the law's row holds: the printed walk of the program's functions, the plain law, the row. -/
import Derived.Test.YtlmfoblgheepoaaGreatDoorProg
import Derived.Below
import Derived.Deep.Draws
import Derived.Deep.AppendLies
import Derived.Maps.AppendAt
import Derived.OwnWalk
import Derived.Laws.BytesArg
import Derived.Laws.MakeOwn
import Derived.Laws.OwnMore
import Derived.Deep.OwnRows
import Derived.Tactics
import Derived.Lib.ConvBytes
import Derived.Laws.Slices
import Derived.WalkKit
import Derived.KernelRfl
import Derived.RowKit3
import Derived.Deep.LoopGhost
import Derived.Deep.QuietTactic
import Derived.BigQuiet
import Derived.WideLaws
import Derived.Deep.DeepCutAuto
import Derived.Deep.CutBlock
import Derived.Deep.RegionHeld3
import Derived.Laws.Rows
import Derived.Lib.AppendStr
import Derived.ArgAppend
import Derived.Laws.IdiomCopy
import Derived.OrdersHeld
import Derived.Laws.BitsLemmas
import Derived.RowKit
import Derived.Sort.KeysCollected
import Derived.WalkSpells
import Derived.Test.YtlmfoblgheepoaaGreatDoorQPh0
namespace Go.Proofs.YtlmfoblgheepoaaGreatDoor.Z
theorem zr5 {p : Prop} (h : p := by first | rfl | (simp [errW_none, errW_some] <;> rfl) | (simp [*, errW_none, errW_some] <;> rfl)) : p := h
theorem zr7 {p : Prop} (h : p := by exact Glb.below HGLB.out (by repeat (first | (with_reducible first | exact HB.out | apply below_alloc | apply pw_below_drewN | apply below_drew1 | refine below_set ?_ GE525.out) | exact HB.out))) : p := h
theorem zr8 {p : Prop} (h : p := by repeat (first | (with_reducible first | exact HB.out | apply below_alloc | apply pw_below_drewN | apply below_drew1 | refine below_set ?_ GE525.out) | exact HB.out)) : p := h
theorem zr9 {p : Prop} (h : p := by (with_reducible repeat (first | refine blk_drewN ?_ _ | refine blk_drew ?_ | refine blk_alloc ?_ _)); exact BK525.out) : p := h
theorem zr12 {p : Prop} (h : p := by repeat (first | exact (Kd.R_reads' HO529.out).2.2 | (with_reducible refine Kd.C_alloc ?_ _) | (with_reducible refine Kd.C_drewN ?_ _) | (with_reducible refine Kd.C_drew ?_))) : p := h
theorem zr13 {p : Prop} (h : p := by (with_reducible repeat (first | apply Kd.R_alloc | apply Kd.R_drewN | apply Kd.R_drew)); exact HO529.out) : p := h
theorem zr14 {p : Prop} (h : p := by exact (Kd.R_reads' HO_10.out).2.1) : p := h
theorem zr15 {p : Prop} (h : p := by (with_reducible repeat (first | apply Kd.R_alloc | apply Kd.R_drewN | apply Kd.R_drew)); exact HO_10.out) : p := h
theorem zr16 {p : Prop} (h : p := by (with_reducible repeat (first | apply Kd.R_alloc | apply Kd.R_drewN | apply Kd.R_drew)); exact HO_54.out) : p := h
theorem zr17 {p : Prop} (h : p := by rw [hg]; exact (below_size (by repeat (first | (with_reducible first | exact HB.out | apply below_alloc | apply pw_below_drewN | apply below_drew1 | refine below_set ?_ GE525.out) | exact HB.out)))) : p := h
theorem zr18 {p : Prop} (h : p := by rw [hg]; exact Nat.ne_of_lt (blk_lt (g := gb525) (o := .cells #[.int .i64 a1_0, .int .i64 a1_1] 50 (0, 0)) (by (with_reducible repeat (first | refine blk_drewN ?_ _ | refine blk_drew ?_ | refine blk_alloc ?_ _)); exact BK525.out))) : p := h
theorem zr19 {p : Prop} (h : p := by rw [hg]; exact Nat.ne_of_gt (blk_lt (g := gb525) (o := .cells #[.int .i64 a1_0, .int .i64 a1_1] 50 (0, 0)) (by (with_reducible repeat (first | refine blk_drewN ?_ _ | refine blk_drew ?_ | refine blk_alloc ?_ _)); exact BK525.out))) : p := h
theorem zr20 {p : Prop} (h : p := by (with_reducible repeat (first | apply Kd.R_alloc | apply Kd.R_drewN | apply Kd.R_drew)); exact (Kd.R_mono (Kd.R_far (p := ⟨gb547, 3, none⟩) (Kd.R_far (p := ⟨gb547, 2, none⟩) (Kd.R_far (p := ⟨gb547, 1, none⟩) (Kd.R_far (p := ⟨gb547, 0, none⟩) (Kd.R_types HO_10.out BK547.out (by decide)) (fun _ hk => hk.2) (.int .i64 t542)) (fun _ hk => hk.2) (.int .i64 t543)) (fun _ hk => hk.2) (.int .i64 t544)) (fun _ hk => hk.2) (.int .i64 t545)) (fun _ h_ => h_.1))) : p := h
theorem zr21 {p : Prop} (h : p := by repeat (first | (with_reducible first | exact HB.out | apply below_alloc | apply pw_below_drewN | apply below_drew1 | refine below_set ?_ GE525.out | refine below_set ?_ GE547.out) | exact HB.out)) : p := h
theorem zr22 {p : Prop} (h : p := by (with_reducible repeat (first | refine blk_drewN ?_ _ | refine blk_drew ?_ | refine blk_alloc ?_ _)); exact BK547.out) : p := h
theorem zr23 {p : Prop} (h : p := by rw [hg]; exact (below_size (by repeat (first | (with_reducible first | exact HB.out | apply below_alloc | apply pw_below_drewN | apply below_drew1 | refine below_set ?_ GE525.out | refine below_set ?_ GE547.out) | exact HB.out)))) : p := h
theorem zr24 {p : Prop} (h : p := by rw [hg]; exact Nat.ne_of_lt (blk_lt (g := gb547) (o := .cells #[.int .i64 t542, .int .i64 t543, .int .i64 t544, .int .i64 t545] 44 (0, 0)) (by (with_reducible repeat (first | refine blk_drewN ?_ _ | refine blk_drew ?_ | refine blk_alloc ?_ _)); exact BK547.out))) : p := h
theorem zr25 {p : Prop} (h : p := by rw [hg]; exact Nat.ne_of_gt (blk_lt (g := gb547) (o := .cells #[.int .i64 t542, .int .i64 t543, .int .i64 t544, .int .i64 t545] 44 (0, 0)) (by (with_reducible repeat (first | refine blk_drewN ?_ _ | refine blk_drew ?_ | refine blk_alloc ?_ _)); exact BK547.out))) : p := h
theorem zr26 {p : Prop} (h : p := by (with_reducible repeat (first | apply Kd.R_alloc | apply Kd.R_drewN | apply Kd.R_drew)); exact (Kd.R_mono (Kd.R_far (p := ⟨gb553, 3, none⟩) (Kd.R_far (p := ⟨gb553, 2, none⟩) (Kd.R_far (p := ⟨gb553, 1, none⟩) (Kd.R_far (p := ⟨gb553, 0, none⟩) (Kd.R_types HO_10.out BK553.out (by decide)) (fun _ hk => hk.2) (.int .i64 t548)) (fun _ hk => hk.2) (.int .i64 t549)) (fun _ hk => hk.2) (.int .i64 t550)) (fun _ hk => hk.2) (.int .i64 t551)) (fun _ h_ => h_.1))) : p := h
theorem zr27 {p : Prop} (h : p := by repeat (first | (with_reducible first | exact HB.out | apply below_alloc | apply pw_below_drewN | apply below_drew1 | refine below_set ?_ GE525.out | refine below_set ?_ GE547.out | refine below_set ?_ GE553.out) | exact HB.out)) : p := h
theorem zr28 {p : Prop} (h : p := by (with_reducible repeat (first | refine blk_drewN ?_ _ | refine blk_drew ?_ | refine blk_alloc ?_ _)); exact BK553.out) : p := h
theorem zr29 {p : Prop} (h : p := by rw [hg]; exact (below_size (by repeat (first | (with_reducible first | exact HB.out | apply below_alloc | apply pw_below_drewN | apply below_drew1 | refine below_set ?_ GE525.out | refine below_set ?_ GE547.out | refine below_set ?_ GE553.out) | exact HB.out)))) : p := h
theorem zr30 {p : Prop} (h : p := by first | rfl | (simp [errW_none, errW_some] <;> rfl) | (simp only [← hji11, ← hji16]; first | rfl | (simp [errW_none, errW_some] <;> rfl)) | (simp [*, errW_none, errW_some] <;> rfl)) : p := h
theorem zr31 {p : Prop} (h : p := by have := HK1.out; first | omega | exact Nat.le_refl _) : p := h
theorem zr32 {p : Prop} (h : p := by (with_reducible repeat (first | apply Kd.R_alloc | apply Kd.R_drewN | apply Kd.R_drew)); exact Kd.R_mono (Kd.R_far (p := ⟨gb559, 3, none⟩) (Kd.R_far (p := ⟨gb559, 2, none⟩) (Kd.R_far (p := ⟨gb559, 1, none⟩) (Kd.R_far (p := ⟨gb559, 0, none⟩) (Kd.R_types HO_10.out BK559.out (by decide)) (fun _ hk => hk.2) (.int .i64 t554)) (fun _ hk => hk.2) (.int .i64 t555)) (fun _ hk => hk.2) (.int .i64 t556)) (fun _ hk => hk.2) (.int .i64 t557)) (fun _ hk => trivial)) : p := h
theorem zr33 {p : Prop} (h : p := by (with_reducible repeat (first | apply Kd.R_alloc | apply Kd.R_drewN | apply Kd.R_drew)); exact Kd.R_mono (Kd.R_far (p := ⟨gb559, 3, none⟩) (Kd.R_far (p := ⟨gb559, 2, none⟩) (Kd.R_far (p := ⟨gb559, 1, none⟩) (Kd.R_far (p := ⟨gb559, 0, none⟩) (Kd.R_types HO_54.out BK559.out (by decide)) (fun _ hk => hk.2) (.int .i64 t554)) (fun _ hk => hk.2) (.int .i64 t555)) (fun _ hk => hk.2) (.int .i64 t556)) (fun _ hk => hk.2) (.int .i64 t557)) (fun _ hk => trivial)) : p := h
theorem zr34 {p : Prop} (h : p := by (with_reducible repeat (first | refine blk_drewN ?_ _ | refine blk_drew ?_ | refine blk_alloc ?_ _)); refine blk_far ?_ NB525_559.out _; (with_reducible repeat (first | refine blk_drewN ?_ _ | refine blk_drew ?_ | refine blk_alloc ?_ _)); refine blk_far ?_ NB525_559.out _; (with_reducible repeat (first | refine blk_drewN ?_ _ | refine blk_drew ?_ | refine blk_alloc ?_ _)); refine blk_far ?_ NB525_559.out _; (with_reducible repeat (first | refine blk_drewN ?_ _ | refine blk_drew ?_ | refine blk_alloc ?_ _)); refine blk_far ?_ NB525_559.out _; (with_reducible repeat (first | refine blk_drewN ?_ _ | refine blk_drew ?_ | refine blk_alloc ?_ _)); exact BK525.out) : p := h
theorem zr35 {p : Prop} (h : p := by (with_reducible repeat (first | refine blk_drewN ?_ _ | refine blk_drew ?_ | refine blk_alloc ?_ _)); refine blk_far ?_ NB547_559.out _; (with_reducible repeat (first | refine blk_drewN ?_ _ | refine blk_drew ?_ | refine blk_alloc ?_ _)); refine blk_far ?_ NB547_559.out _; (with_reducible repeat (first | refine blk_drewN ?_ _ | refine blk_drew ?_ | refine blk_alloc ?_ _)); refine blk_far ?_ NB547_559.out _; (with_reducible repeat (first | refine blk_drewN ?_ _ | refine blk_drew ?_ | refine blk_alloc ?_ _)); refine blk_far ?_ NB547_559.out _; (with_reducible repeat (first | refine blk_drewN ?_ _ | refine blk_drew ?_ | refine blk_alloc ?_ _)); exact BK547.out) : p := h
theorem zr36 {p : Prop} (h : p := by (with_reducible repeat (first | refine blk_drewN ?_ _ | refine blk_drew ?_ | refine blk_alloc ?_ _)); refine blk_far ?_ NB553_559.out _; (with_reducible repeat (first | refine blk_drewN ?_ _ | refine blk_drew ?_ | refine blk_alloc ?_ _)); refine blk_far ?_ NB553_559.out _; (with_reducible repeat (first | refine blk_drewN ?_ _ | refine blk_drew ?_ | refine blk_alloc ?_ _)); refine blk_far ?_ NB553_559.out _; (with_reducible repeat (first | refine blk_drewN ?_ _ | refine blk_drew ?_ | refine blk_alloc ?_ _)); refine blk_far ?_ NB553_559.out _; (with_reducible repeat (first | refine blk_drewN ?_ _ | refine blk_drew ?_ | refine blk_alloc ?_ _)); exact BK553.out) : p := h
theorem zr37 {p : Prop} (h : p := by (with_reducible repeat (first | refine blk_drewN ?_ _ | refine blk_drew ?_ | refine blk_alloc ?_ _)); refine blk_put (cs := #[.int .i64 t554, .int .i64 t555, .int .i64 t556, .int .i64 0]) ?_ 3 _ rfl; (with_reducible repeat (first | refine blk_drewN ?_ _ | refine blk_drew ?_ | refine blk_alloc ?_ _)); refine blk_put (cs := #[.int .i64 t554, .int .i64 t555, .int .i64 0, .int .i64 0]) ?_ 2 _ rfl; (with_reducible repeat (first | refine blk_drewN ?_ _ | refine blk_drew ?_ | refine blk_alloc ?_ _)); refine blk_put (cs := #[.int .i64 t554, .int .i64 0, .int .i64 0, .int .i64 0]) ?_ 1 _ rfl; (with_reducible repeat (first | refine blk_drewN ?_ _ | refine blk_drew ?_ | refine blk_alloc ?_ _)); refine blk_put (cs := #[.int .i64 0, .int .i64 0, .int .i64 0, .int .i64 0]) ?_ 0 _ rfl; (with_reducible repeat (first | refine blk_drewN ?_ _ | refine blk_drew ?_ | refine blk_alloc ?_ _)); exact BK559.out) : p := h
theorem zr38 {p : Prop} (h : p := by repeat (first | (with_reducible first | exact HB.out | apply below_alloc | apply pw_below_drewN | apply below_drew1 | refine below_set ?_ GE525.out | refine below_set ?_ GE547.out | refine below_set ?_ GE553.out | refine below_set ?_ GE559.out) | exact HB.out)) : p := h
theorem zr39 {p : Prop} (h : p := by have := HK1.out; have := HJ40.out; omega) : p := h
end Go.Proofs.YtlmfoblgheepoaaGreatDoor.Z
section
open Go.Proofs.YtlmfoblgheepoaaGreatDoor.Z
namespace Go.Proofs.YtlmfoblgheepoaaGreatDoor.Pl
open Go.RowKit Go.Proofs.YtlmfoblgheepoaaGreatDoorW.PrintWords Go.Proofs.YtlmfoblgheepoaaGreatDoorW.PrintLast Go.Proofs.YtlmfoblgheepoaaGreatDoorW.PrintMore
attribute [local go_sem] max2_int min2_int max_two min_two max_three min_three max_four min_four
set_option linter.unusedVariables false
set_option linter.unusedSimpArgs false
theorem info3 : (Tryz.prog.info? 3).map (fun i => (i.zero, i.size, i.bytes)) = some (some (.int .i64 0), 1, 8) := by kernel_rfl
end Go.Proofs.YtlmfoblgheepoaaGreatDoor.Pl
end
section
open Go.Proofs.YtlmfoblgheepoaaGreatDoor.Z
namespace Go.Proofs.YtlmfoblgheepoaaGreatDoor.Pl
open Go.RowKit Go.Proofs.YtlmfoblgheepoaaGreatDoorW.PrintWords Go.Proofs.YtlmfoblgheepoaaGreatDoorW.PrintLast Go.Proofs.YtlmfoblgheepoaaGreatDoorW.PrintMore
attribute [local go_sem] max2_int min2_int max_two min_two max_three min_three max_four min_four
set_option linter.unusedVariables false
set_option linter.unusedSimpArgs false
def dialtonelaw12_text.l0 : Nat → List Int → ByteArray → Int → Option (ByteArray)
 | 0, _, _, _ => none
 | k + 1, x0, x3, x4 => if x4 < (x0.length : Int) then (if x4 < 17 then (if 0 ≤ x4 then ((dialtonelaw12_pick.f (rd x0 x4) 10).bind fun t309 => ((some (([(wrap64 (48 + t309)) % 256] : List Int) : List Int)).bind fun y310 => (if x3.size + (strOfNums y310).size ≤ 9223372036854775807 then (dialtonelaw12_text.l0 k x0 (x3 ++ (strOfNums y310)) (wrap64 (x4 + 1))) else (none)))) else (none)) else (some x3)) else (some x3)
def dialtonelaw12_text.f (k : Nat) (l0 : List Int) : Option (ByteArray) := dialtonelaw12_text.l0 k l0 (⟨#[]⟩ : ByteArray) 0
set_option maxHeartbeats 8000000 in
set_option maxRecDepth 100000 in
theorem dialtonelaw12_text.calls (k : Nat) (A0 : Option Addr) (c0 : Nat) (l0 : List Int) (r : ByteArray) (w : World) (hr0 : Kd.C (Kd.int .i64) w A0 l0.length l0) (hc0 : l0.length ≤ c0) (h : dialtonelaw12_text.f k l0 = some r) :
 Calls Tryz.prog 15 #[.slice A0 l0.length c0] w fun e w' => e = .returned (.string r) ∧ Below w.heap.size w w' := by
 have HR0 := Aside0.mk hr0
 have HC0 := Aside0.mk hc0
 clear hr0 hc0
 have HB := Aside0.mk (Below.refl w.heap.size w)
 have H : (dialtonelaw12_text.l0 k l0 (⟨#[]⟩ : ByteArray) 0) = some r := h
 clear h
 have H' := Aside0.mk H
 clear H
 go_enter Tryz.func15, Tryz.ntmps15
 go_wp2
 go_loopg [3, 4] k (fun kq v3 v4 w' => ∃ (x3_1 : ByteArray) (x4_1 : Int), v3 = .string x3_1 ∧ v4 = .int .i64 x4_1 ∧ Aside0 (dialtonelaw12_text.l0 kq l0 x3_1 x4_1 = some r) ∧ Aside0 (kq ≤ k) ∧ Aside0 (Below w.heap.size w w'))
 case atStart => exact ⟨((⟨#[]⟩ : ByteArray)), (0), (zq6), (zq6), H', ⟨Nat.le_refl _⟩, ⟨zq1⟩⟩
 case round =>
  clear H'
  try clear c1
  obtain ⟨x3_1, x4_1, rfl, rfl, HA, HK1, HB⟩ := hrel
  cases gk with
  | zero => exact absurd HA.out (by simp [dialtonelaw12_text.l0])
  | succ k1 =>
   have H := HA.out
   clear HA
   simp only [dialtonelaw12_text.l0] at H
   by_cases c2 : x4_1 < (l0.length : Int)
   rotate_left
   ·rw [if_neg c2] at H
    have c2b0 : decide (x4_1 < (l0.length : Int)) = false := decide_eq_false c2
    clear c2
    obtain rfl := Option.some.inj H
    go_wp2
    go_ret
    exact ⟨zr5, zq1⟩
   rw [if_pos c2] at H
   have c2b0 : decide (x4_1 < (l0.length : Int)) = true := decide_eq_true c2
   clear c2
   by_cases c3 : x4_1 < 17
   rotate_left
   ·rw [if_neg c3] at H
    have c3b0 : decide (x4_1 < 17) = false := decide_eq_false c3
    clear c3
    obtain rfl := Option.some.inj H
    go_wp2
    go_ret
    exact ⟨zr5, zq1⟩
   rw [if_pos c3] at H
   have c3b0 : decide (x4_1 < 17) = true := decide_eq_true c3
   clear c3
   by_cases c4 : 0 ≤ x4_1
   rotate_left
   ·rw [if_neg c4] at H
    exact absurd H (by simp)
   rw [if_pos c4] at H
   have c4b0 : decide (0 ≤ x4_1) = true := decide_eq_true c4
   clear c4
   replace H := Option.bind_eq_some_iff.mp H
   obtain ⟨t309, A50, H⟩ := H
   try dsimp only at H
   have A5 := Aside0.mk A50
   clear A50
   obtain ⟨y310, hy310⟩ : ∃ y_ : List Int, y_ = (([(wrap64 (48 + t309)) % 256] : List Int)) := ⟨_, rfl⟩
   replace H : (if x3_1.size + (strOfNums y310).size ≤ 9223372036854775807 then (dialtonelaw12_text.l0 k1 l0 (x3_1 ++ (strOfNums y310)) (wrap64 (x4_1 + 1))) else (none)) = some r := by first | (rw [hy310]; with_reducible exact H) | (have H2_ := (Option.bind_some _ _).symm.trans H; rw [hy310]; with_reducible exact H2_) | (have H2_ := (Option.bind_some _ _).symm.trans H; with_reducible exact H2_) | with_reducible exact H | (rw [hy310]; exact H) | exact H
   have Ny310 := Aside0.mk hy310
   clear hy310
   by_cases c6 : x3_1.size + (strOfNums y310).size ≤ 9223372036854775807
   rotate_left
   ·rw [if_neg c6] at H
    exact absurd H (by simp)
   rw [if_pos c6] at H
   have c6b0 := eq_true c6
   have c6b1 : decide (x3_1.size + (strOfNums y310).size ≤ 9223372036854775807) = true := decide_eq_true c6
   try have c6b2 : (9223372036854775807 < x3_1.size + (strOfNums y310).size) = False := eq_false (Nat.not_lt.2 c6)
   have H' := Aside0.mk H
   clear H
   have p308 : 0 ≤ (x4_1 : Int) := of_decide_eq_true (zq14)
   have q308 : x4_1 < (l0.length : Int) := of_decide_eq_true (zq14)
   obtain ⟨ad308, e308, hx308_0⟩ := Kd.at_int HR0.out x4_1 p308 q308
   cases e308
   replace hx308_0 := (HB.out.cell (World.block_lt_of_cell? w _ hx308_0)).trans hx308_0
   replace p308 := eq_true p308
   replace q308 := eq_true q308
   go_wp2_with (first | ((with_reducible refine gate_callee (f := 16) rfl ?_); refine goesL_ (some 20) rfl rfl Tryz.func16 (by kernel_rfl) rfl #[.int .i64 (rd l0 x4_1), .int .i64 10] rfl (zq3) ?_; (with_reducible refine (dialtonelaw12_pick.calls (rd l0 x4_1) 10 t309 _ A5.out).mono ?_); rintro e w' ⟨rfl, ⟨nd, rfl⟩⟩; refine ⟨_, rfl, ?_⟩) | ((with_reducible refine gate_dst (N := 23) rfl ?_); refine Kd.R_lit (Kd.int .u8) _ 5 ?hg (N := 23) ?hd (xs := ([(wrap64 (48 + t309)) % 256] : List Int)) (inner := [.int .u8 ((wrap64 (48 + t309)) % 256)]) (ok := fun _ => True) (okp := fun _ => True) ?hr ?hp (fun _ hk => hk) trivial (Below.refl _ _) (Nat.le_refl _) (by simp) ?_; (case hd => rfl); (case hg => rfl); (case hr => exact zq0); (case hp => exact (Reps.one (show Kd.M (Kd.int .u8) _ _ _ ((wrap64 (48 + t309)) % 256) [.int .u8 ((wrap64 (48 + t309)) % 256)] from rfl) (Reps.none _ _))); intro v311 w7 ho8 hb hg_ hnew_; clear hg_ hnew_; (first | rw [← Ny310.out] at ho8 | (simp only [Int.reduceToNat] at ho8; rw [← Ny310.out] at ho8)); have n0_ := Aside0.mk (Kd.R_lower ho8 (below_size (zq1))); have n1_ := Aside0.mk (below_step (zq1) hb); clear HB; have HO312 := n0_; have HB := n1_; clear n0_ n1_; clear hb ho8; have hcv9 := own_string (P := Tryz.prog) Tryz.underlying65 Tryz.underlying5 Tryz.underlying9 (Kd.own_of_R HO312.out)))
   go_roundg k1
   case measure => have := HK1.out; omega
   case rel => exact ⟨(x3_1 ++ (strOfNums y310)), (wrap64 (x4_1 + 1)), (zq6), (zq6), H', ⟨by have := HK1.out; omega⟩, ⟨zq1⟩⟩
end Go.Proofs.YtlmfoblgheepoaaGreatDoor.Pl
end
section
open Go.Proofs.YtlmfoblgheepoaaGreatDoor.Z
namespace Go.Proofs.YtlmfoblgheepoaaGreatDoor.Pl
open Go.RowKit Go.Proofs.YtlmfoblgheepoaaGreatDoorW.PrintWords Go.Proofs.YtlmfoblgheepoaaGreatDoorW.PrintLast Go.Proofs.YtlmfoblgheepoaaGreatDoorW.PrintMore
attribute [local go_sem] max2_int min2_int max_two min_two max_three min_three max_four min_four
set_option linter.unusedVariables false
set_option linter.unusedSimpArgs false
attribute [local go_sem high] eqA44
mutual
def dialtonelaw12_PlanPhases.l0 : Nat → Bool → List (S29) → List ByteArray → Int → Int → Option (Bool)
 | 0, _, _, _, _, _ => none
 | k + 1, x9, x10, x54, x55, x56 => if x56 < x55 then (if 0 ≤ x56 then (if x56 < (x54.length : Int) then ((plan_Read.f k x10 (rdOf ByteArray.empty x54 x56) 1).bind fun bt542 => ((plan_Read.f k x10 (rdOf ByteArray.empty x54 x56) 2).bind fun bt548 => ((plan_Read.f k x10 (rdOf ByteArray.empty x54 x56) 3).bind fun bt554 => (if bt542.2.2.2.2 = 0 then (if bt548.2.2.2.2 = 0 then (if bt554.2.2.2.2 = 0 then (if bt542.1 = 2 then (dialtonelaw12_PlanPhases.j1 k x9 x10 x54 x55 x56 (bt554.1 == 2) bt542.1 bt542.2.1 bt542.2.2.1 bt542.2.2.2.1 bt548.1 bt548.2.1 bt548.2.2.1 bt548.2.2.2.1 bt554.1 bt554.2.1 bt554.2.2.1 bt554.2.2.2.1) else (dialtonelaw12_PlanPhases.j1 k x9 x10 x54 x55 x56 false bt542.1 bt542.2.1 bt542.2.2.1 bt542.2.2.2.1 bt548.1 bt548.2.1 bt548.2.2.1 bt548.2.2.2.1 bt554.1 bt554.2.1 bt554.2.2.1 bt554.2.2.2.1)) else (dialtonelaw12_PlanPhases.j1 k x9 x10 x54 x55 x56 true bt542.1 bt542.2.1 bt542.2.2.1 bt542.2.2.2.1 bt548.1 bt548.2.1 bt548.2.2.1 bt548.2.2.2.1 bt554.1 bt554.2.1 bt554.2.2.1 bt554.2.2.2.1)) else (dialtonelaw12_PlanPhases.j1 k x9 x10 x54 x55 x56 true bt542.1 bt542.2.1 bt542.2.2.1 bt542.2.2.2.1 bt548.1 bt548.2.1 bt548.2.2.1 bt548.2.2.2.1 bt554.1 bt554.2.1 bt554.2.2.1 bt554.2.2.2.1)) else (dialtonelaw12_PlanPhases.j1 k x9 x10 x54 x55 x56 true bt542.1 bt542.2.1 bt542.2.2.1 bt542.2.2.2.1 bt548.1 bt548.2.1 bt548.2.2.1 bt548.2.2.2.1 bt554.1 bt554.2.1 bt554.2.2.1 bt554.2.2.2.1))))) else (none)) else (none)) else (some x9)
def dialtonelaw12_PlanPhases.j1 : Nat → Bool → List (S29) → List ByteArray → Int → Int → Bool → Int → Int → Int → Int → Int → Int → Int → Int → Int → Int → Int → Int → Option (Bool)
 | 0, _, _, _, _, _, _, _, _, _, _, _, _, _, _, _, _, _, _ => none
 | k + 1, x9, x10, x54, x55, x56, x97, x548000, x548001, x548002, x548003, x554000, x554001, x554002, x554003, x560000, x560001, x560002, x560003 => if x97 = true then (some false) else (if x548000 = 2 then (if (!(x554000 == x548000) || (!(x554001 == x548001) || (!(x554002 == x548002) || (!(x554003 == x548003))))) = true then (some false) else (dialtonelaw12_PlanPhases.l0 k x9 x10 x54 x55 (wrap64 (x56 + 1)))) else (if x560000 = 2 then (if (!(x554000 == x560000) || (!(x554001 == x560001) || (!(x554002 == x560002) || (!(x554003 == x560003))))) = true then (some false) else (dialtonelaw12_PlanPhases.l0 k x9 x10 x54 x55 (wrap64 (x56 + 1)))) else (if x554000 = 2 then (some false) else (if x548000 = 1 then (if ((x554000 == 1) != true) = true then (some false) else (dialtonelaw12_PlanPhases.l0 k x9 x10 x54 x55 (wrap64 (x56 + 1)))) else (if ((x554000 == 1) != (x560000 == 1)) = true then (some false) else (dialtonelaw12_PlanPhases.l0 k x9 x10 x54 x55 (wrap64 (x56 + 1))))))))
end
def dialtonelaw12_PlanPhases.f (k : Nat) (l0 : List (S23)) (a1_0 : Int) (a1_1 : Int) (a2 : Int) (l3 : List Int) : Option (Bool) := (dialtonelaw12_sane.f k).bind fun t526 => (if t526 = true then ((dialtoneref12_Made.f k l0).bind fun t527 => ((dialtoneref12_Number.f k t527 a1_0 a1_1).bind fun t530 => ((dialtonelaw12_pick.f a2 3).bind fun t531 => ((plan_Write.f k t527 t530 (wrap64 (1 + t531))).bind fun bt532 => (if 0 ≤ (mn (l3.length : Int) 8) then (if (mn (l3.length : Int) 8) ≤ (l3.length : Int) then ((dialtonelaw12_text.f k (l3.take ((mn (l3.length : Int) 8) : Int).toNat)).bind fun t535 => (if bt532.1.size + t535.size ≤ 9223372036854775807 then (if 0 ≤ (mn (l3.length : Int) 16) then (if (mn (l3.length : Int) 16) ≤ (l3.length : Int) then ((dialtonelaw12_text.f k (l3.take ((mn (l3.length : Int) 16) : Int).toNat)).bind fun t537 => ((some (([bt532.1 ++ t535, t537] : List ByteArray) : List ByteArray)).bind fun y538 => (dialtonelaw12_PlanPhases.l0 k t526 t527 y538 (y538.length : Int) 0))) else (none)) else (none)) else (none))) else (none)) else (none)))))) else (some false))
def dialtonelaw12_PlanPhases.T6 : Bool × List (List Nat × List Nat) := (true, [([], []), ([], []), ([], []), ([2], [2]), ([3], [3]), ([1, 4], [1, 4]), ([5], [5]), ([0, 6], [0, 6]), ([], []), ([], []), ([9], [9]), ([10], [10]), ([8, 11], [8, 11]), ([12, 6], [12]), ([7, 13], [7, 13]), ([14], [14]), ([], [])])
def dialtonelaw12_PlanPhases.B6 : List Nat := [0, 0, 0, 4, 12, 30, 62, 127, 0, 0, 512, 1536, 3840, 8062, 16383, 32767, 0]
theorem dialtonelaw12_PlanPhases.tab6 : rtab .any (opsOf Tryz.f8 6) = dialtonelaw12_PlanPhases.T6 := by kernel_rfl
theorem dialtonelaw12_PlanPhases.bits6 : waitsOk dialtonelaw12_PlanPhases.T6.2 dialtonelaw12_PlanPhases.B6 = true := by kernel_rfl
set_option maxHeartbeats 8000000 in
set_option maxRecDepth 100000 in
theorem dialtonelaw12_PlanPhases.calls (k : Nat) (A0 : Option Addr) (c0 : Nat) (l0 : List (S23)) (a1_0 : Int) (a1_1 : Int) (a2 : Int) (A3 : Option Addr) (c3 : Nat) (l3 : List Int) (r : Bool) (w : World) (hr0 : Kd.C k23 w A0 l0.length l0) (hc0 : l0.length ≤ c0) (hr3 : Kd.C (Kd.int .i64) w A3 l3.length l3) (hc3 : l3.length ≤ c3) (hG : Glb w) (h : dialtonelaw12_PlanPhases.f k l0 a1_0 a1_1 a2 l3 = some r) :
 Calls Tryz.prog 8 #[.slice A0 l0.length c0, .agg #[.int .i64 a1_0, .int .i64 a1_1], .int .i64 a2, .slice A3 l3.length c3] w fun e w' => e = .returned (.bool r) ∧ Below w.heap.size w w' := by
 have HGLB := Aside0.mk hG
 clear hG
 have hu50 := Tryz.underlying50
 have hu44 := Tryz.underlying44
 have HR0 := Aside0.mk hr0
 have HC0 := Aside0.mk hc0
 clear hr0 hc0
 have HR3 := Aside0.mk hr3
 have HC3 := Aside0.mk hc3
 clear hr3 hc3
 have HB := Aside0.mk (Below.refl w.heap.size w)
 have H : ((dialtonelaw12_sane.f k).bind fun t526 => (if t526 = true then ((dialtoneref12_Made.f k l0).bind fun t527 => ((dialtoneref12_Number.f k t527 a1_0 a1_1).bind fun t530 => ((dialtonelaw12_pick.f a2 3).bind fun t531 => ((plan_Write.f k t527 t530 (wrap64 (1 + t531))).bind fun bt532 => (if 0 ≤ (mn (l3.length : Int) 8) then (if (mn (l3.length : Int) 8) ≤ (l3.length : Int) then ((dialtonelaw12_text.f k (l3.take ((mn (l3.length : Int) 8) : Int).toNat)).bind fun t535 => (if bt532.1.size + t535.size ≤ 9223372036854775807 then (if 0 ≤ (mn (l3.length : Int) 16) then (if (mn (l3.length : Int) 16) ≤ (l3.length : Int) then ((dialtonelaw12_text.f k (l3.take ((mn (l3.length : Int) 16) : Int).toNat)).bind fun t537 => ((some (([bt532.1 ++ t535, t537] : List ByteArray) : List ByteArray)).bind fun y538 => (dialtonelaw12_PlanPhases.l0 k t526 t527 y538 (y538.length : Int) 0))) else (none)) else (none)) else (none))) else (none)) else (none)))))) else (some false))) = some r := h
 clear h
 replace H := Option.bind_eq_some_iff.mp H
 obtain ⟨t526, A50, H⟩ := H
 try dsimp only at H
 have A5 := Aside0.mk A50
 clear A50
 by_cases c6 : t526 = true
 rotate_left
 ·replace c6 := Bool.eq_false_iff.mpr c6
  subst c6
  rw [if_neg (show ¬ (false = true) by decide)] at H
  obtain rfl := Option.some.inj H
  go_enter Tryz.func8, Tryz.ntmps8
  go_wp2_with (first | ((with_reducible refine gate_dst (N := 5) rfl ?_); refine box_event ?hg (N := 5) ?hd (cs := #[.int .i64 a1_0, .int .i64 a1_1]) (t := 50) ?hr ?_; (case hd => rfl); (case hg => rfl); (case hr => exact zq0); intro gb525 hg w158 hbox hb; have n0_ := Aside0.mk (below_step (zq1) hb); have n1_ := Aside0.mk (hbox); have n2_ := Aside0.mk ((zq2 : w.heap.size ≤ gb525)); have n3_ := Aside0.mk ((zq2 : w.heap.size ≤ gb525)); clear HB; have HB := n0_; have BK525 := n1_; have GW525 := n2_; have GE525 := n3_; clear n0_ n1_ n2_ n3_; clear hb hbox hg) | ((with_reducible refine gate_callee (f := 11) rfl ?_); refine goesL_ (some 21) rfl rfl Tryz.func11 (by kernel_rfl) rfl #[] rfl (zq3) ?_; (with_reducible refine (dialtonelaw12_sane.calls k  false _ ?side1 A5.out).mono ?_); (case side1 => exact zr7); rintro e w159 ⟨rfl, hb⟩; refine ⟨_, rfl, ?_⟩; have n0_ := Aside0.mk (blk_below (g := gb525) (o := .cells #[.int .i64 a1_0, .int .i64 a1_1] 50 (0, 0)) (zr9) hb); have n1_ := Aside0.mk (below_step (zr8) hb); clear BK525; clear HB; have BK525 := n0_; have HB := n1_; clear n0_ n1_; (try clear hb); (try clear hb2); (try clear hk); (try clear hi)))
  go_ret
  exact ⟨zr5, zr8⟩
 subst c6
 rw [if_pos rfl] at H
 replace H := Option.bind_eq_some_iff.mp H
 obtain ⟨t527, A70, H⟩ := H
 try dsimp only at H
 have A7 := Aside0.mk A70
 clear A70
 replace H := Option.bind_eq_some_iff.mp H
 obtain ⟨t530, A80, H⟩ := H
 try dsimp only at H
 have A8 := Aside0.mk A80
 clear A80
 replace H := Option.bind_eq_some_iff.mp H
 obtain ⟨t531, A90, H⟩ := H
 try dsimp only at H
 have A9 := Aside0.mk A90
 clear A90
 replace H := Option.bind_eq_some_iff.mp H
 obtain ⟨⟨t532, t533⟩, A100, H⟩ := H
 try dsimp only at H
 have A10 := Aside0.mk A100
 clear A100
 obtain ⟨ji11, hji11⟩ : ∃ j_ : Int, (mn (l3.length : Int) 8) = j_ := ⟨_, rfl⟩
 replace H : (if 0 ≤ (ji11) then (if (ji11) ≤ (l3.length : Int) then ((dialtonelaw12_text.f k (l3.take ((ji11) : Int).toNat)).bind fun t535 => (if t532.size + t535.size ≤ 9223372036854775807 then (if 0 ≤ (mn (l3.length : Int) 16) then (if (mn (l3.length : Int) 16) ≤ (l3.length : Int) then ((dialtonelaw12_text.f k (l3.take ((mn (l3.length : Int) 16) : Int).toNat)).bind fun t537 => ((some (([t532 ++ t535, t537] : List ByteArray) : List ByteArray)).bind fun y538 => (dialtonelaw12_PlanPhases.l0 k true t527 y538 (y538.length : Int) 0))) else (none)) else (none)) else (none))) else (none)) else (none)) = some r := by first | (rw [hji11] at H; exact H) | (simp only [hji11] at H ⊢; exact H)
 (try rw [hji11] at A5)
 (try rw [hji11] at A7)
 (try rw [hji11] at A8)
 (try rw [hji11] at A9)
 (try rw [hji11] at A10)
 (try (have hji11h : ji11 ≤ 8 := by (rw [← hji11]; unfold mn; (repeat' split) <;> omega)))
 (try (have hji11g : ji11 ≤ 64 := by omega))
 (try (have hji11l : 0 ≤ ji11 := by (rw [← hji11]; unfold mn; (repeat' split) <;> omega)))
 (try (have hji11m : 0 ≤ ji11 := by omega))
 have hji11_ : (if 8 < (l3.length : Int) then 8 else (l3.length : Int)) = ji11 := hji11
 by_cases c12 : 0 ≤ (ji11)
 rotate_left
 ·rw [if_neg c12] at H
  exact absurd H (by simp)
 rw [if_pos c12] at H
 have c12b0 := eq_true c12
 have c12b1 : decide (0 ≤ (ji11)) = true := decide_eq_true c12
 clear c12
 by_cases c13 : (ji11) ≤ (l3.length : Int)
 rotate_left
 ·rw [if_neg c13] at H
  exact absurd H (by simp)
 rw [if_pos c13] at H
 have c13b0 := eq_true c13
 have c13b1 : decide ((ji11) ≤ (l3.length : Int)) = true := decide_eq_true c13
 clear c13
 replace H := Option.bind_eq_some_iff.mp H
 obtain ⟨t535, A140, H⟩ := H
 try dsimp only at H
 have A14 := Aside0.mk A140
 clear A140
 by_cases c15 : t532.size + t535.size ≤ 9223372036854775807
 rotate_left
 ·rw [if_neg c15] at H
  exact absurd H (by simp)
 rw [if_pos c15] at H
 have c15b0 := eq_true c15
 have c15b1 : decide (t532.size + t535.size ≤ 9223372036854775807) = true := decide_eq_true c15
 try have c15b2 : (9223372036854775807 < t532.size + t535.size) = False := eq_false (Nat.not_lt.2 c15)
 obtain ⟨ji16, hji16⟩ : ∃ j_ : Int, (mn (l3.length : Int) 16) = j_ := ⟨_, rfl⟩
 replace H : (if 0 ≤ (ji16) then (if (ji16) ≤ (l3.length : Int) then ((dialtonelaw12_text.f k (l3.take ((ji16) : Int).toNat)).bind fun t537 => ((some (([t532 ++ t535, t537] : List ByteArray) : List ByteArray)).bind fun y538 => (dialtonelaw12_PlanPhases.l0 k true t527 y538 (y538.length : Int) 0))) else (none)) else (none)) = some r := by first | (rw [hji16] at H; exact H) | (simp only [hji16] at H ⊢; exact H)
 (try rw [hji16] at A5)
 (try rw [hji16] at A7)
 (try rw [hji16] at A8)
 (try rw [hji16] at A9)
 (try rw [hji16] at A10)
 (try rw [hji16] at A14)
 (try (have hji16h : ji16 ≤ 16 := by (rw [← hji16]; unfold mn; (repeat' split) <;> omega)))
 (try (have hji16g : ji16 ≤ 64 := by omega))
 (try (have hji16l : 0 ≤ ji16 := by (rw [← hji16]; unfold mn; (repeat' split) <;> omega)))
 (try (have hji16m : 0 ≤ ji16 := by omega))
 have hji16_ : (if 16 < (l3.length : Int) then 16 else (l3.length : Int)) = ji16 := hji16
 by_cases c17 : 0 ≤ (ji16)
 rotate_left
 ·rw [if_neg c17] at H
  exact absurd H (by simp)
 rw [if_pos c17] at H
 have c17b0 := eq_true c17
 have c17b1 : decide (0 ≤ (ji16)) = true := decide_eq_true c17
 clear c17
 by_cases c18 : (ji16) ≤ (l3.length : Int)
 rotate_left
 ·rw [if_neg c18] at H
  exact absurd H (by simp)
 rw [if_pos c18] at H
 have c18b0 := eq_true c18
 have c18b1 : decide ((ji16) ≤ (l3.length : Int)) = true := decide_eq_true c18
 clear c18
 replace H := Option.bind_eq_some_iff.mp H
 obtain ⟨t537, A190, H⟩ := H
 try dsimp only at H
 have A19 := Aside0.mk A190
 clear A190
 obtain ⟨y538, hy538⟩ : ∃ y_ : List ByteArray, y_ = (([t532 ++ t535, t537] : List ByteArray)) := ⟨_, rfl⟩
 replace H : (dialtonelaw12_PlanPhases.l0 k true t527 y538 (y538.length : Int) 0) = some r := by first | (rw [hy538]; with_reducible exact H) | (have H2_ := (Option.bind_some _ _).symm.trans H; rw [hy538]; with_reducible exact H2_) | (have H2_ := (Option.bind_some _ _).symm.trans H; with_reducible exact H2_) | with_reducible exact H | (rw [hy538]; exact H) | exact H
 have Ny538 := Aside0.mk hy538
 clear hy538
 have H' := Aside0.mk H
 clear H
 go_enter Tryz.func8, Tryz.ntmps8
 try go_wp2_with (first | ((with_reducible refine gate_dst (N := 5) rfl ?_); refine box_event ?hg (N := 5) ?hd (cs := #[.int .i64 a1_0, .int .i64 a1_1]) (t := 50) ?hr ?_; (case hd => rfl); (case hg => rfl); (case hr => exact zq0); intro gb525 hg w20 hbox hb; have n0_ := Aside0.mk (below_step (zq1) hb); have n1_ := Aside0.mk (hbox); have n2_ := Aside0.mk ((zq2 : w.heap.size ≤ gb525)); have n3_ := Aside0.mk ((zq2 : w.heap.size ≤ gb525)); clear HB; have HB := n0_; have BK525 := n1_; have GW525 := n2_; have GE525 := n3_; clear n0_ n1_ n2_ n3_; clear hb hbox hg) | ((with_reducible refine gate_callee (f := 11) rfl ?_); refine goesL_ (some 21) rfl rfl Tryz.func11 (by kernel_rfl) rfl #[] rfl (zq3) ?_; (with_reducible refine (dialtonelaw12_sane.calls k  true _ ?side1 A5.out).mono ?_); (case side1 => exact zr7); rintro e w21 ⟨rfl, hb⟩; refine ⟨_, rfl, ?_⟩; have n0_ := Aside0.mk (blk_below (g := gb525) (o := .cells #[.int .i64 a1_0, .int .i64 a1_1] 50 (0, 0)) (zr9) hb); have n1_ := Aside0.mk (below_step (zr8) hb); clear BK525; clear HB; have BK525 := n0_; have HB := n1_; clear n0_ n1_; (try clear hb); (try clear hb2); (try clear hk); (try clear hi)) | ((with_reducible refine gate_callee (f := 12) rfl ?_); refine goesL_ (some 25) rfl rfl Tryz.func12 (by kernel_rfl) rfl #[.slice A0 l0.length c0] rfl (zq3) ?_; (with_reducible refine (dialtoneref12_Made.calls k _ _ l0 t527 _ ?side1 ?side2 A7.out).mono ?_); (case side1 => exact zq25); (case side2 => exact zq26); rintro e w22 ⟨v528, rfl, ho0, hb⟩; refine ⟨_, rfl, ?_⟩; have n0_ := Aside0.mk (Kd.R_lower ho0 (below_size (zr8))); have n1_ := Aside0.mk (blk_below (g := gb525) (o := .cells #[.int .i64 a1_0, .int .i64 a1_1] 50 (0, 0)) (zr9) hb); have n2_ := Aside0.mk (below_step (zr8) hb); clear BK525; clear HB; have HO529 := n0_; have BK525 := n1_; have HB := n2_; clear n0_ n1_ n2_; (try clear hb); (try clear hb2); (try clear hk); (try clear hi); (try clear ho0); have hcz23_0 : w22.cell? ⟨gb525, 0, none⟩ = some (.int .i64 a1_0) := (blk_cell BK525.out 0).trans rfl; have hcz23_1 : w22.cell? ⟨gb525, 1, none⟩ = some (.int .i64 a1_1) := (blk_cell BK525.out 1).trans rfl; have hfz23_0 := blk_frozen BK525.out 0; have hfz23_1 := blk_frozen BK525.out 1; obtain ⟨Ao24, co24, eo24⟩ := Kd.R_slice HO529.out; subst eo24) | ((with_reducible refine gate_callee (f := 13) rfl ?_); refine goesL_ (some 33) rfl rfl Tryz.func13 (by kernel_rfl) rfl #[.slice Ao24 t527.length co24, .int .i64 a1_0, .int .i64 a1_1] rfl (zq3) ?_; (with_reducible refine (dialtoneref12_Number.calls k _ _ t527 a1_0 a1_1 t530 _ ?side1 ?side2 A8.out).mono ?_); (case side1 => exact zr12); (case side2 => exact (Kd.R_reads' HO529.out).2.1); rintro e w25 ⟨rfl, hb⟩; refine ⟨_, rfl, ?_⟩; have n0_ := Aside0.mk (Kd.R_below (zr13) hb); have n1_ := Aside0.mk (blk_below (g := gb525) (o := .cells #[.int .i64 a1_0, .int .i64 a1_1] 50 (0, 0)) (zr9) hb); have n2_ := Aside0.mk (below_step (zr8) hb); clear HO529; clear BK525; clear HB; have HO529 := n0_; have BK525 := n1_; have HB := n2_; clear n0_ n1_ n2_; (try clear hb); (try clear hb2); (try clear hk); (try clear hi)) | ((with_reducible refine gate_callee (f := 16) rfl ?_); refine goesL_ (some 35) rfl rfl Tryz.func16 (by kernel_rfl) rfl #[.int .i64 a2, .int .i64 3] rfl (zq3) ?_; (with_reducible refine (dialtonelaw12_pick.calls a2 3 t531 _ A9.out).mono ?_); rintro e w' ⟨rfl, ⟨nd, rfl⟩⟩; refine ⟨_, rfl, ?_⟩) | ((with_reducible refine gate_callee (f := 17) rfl ?_); refine goesL_ (some 37) rfl rfl Tryz.func17 (by kernel_rfl) rfl #[.slice Ao24 t527.length co24, .int .i64 t530, .int .i64 (wrap64 (1 + t531))] rfl (zq3) ?_; (with_reducible refine (plan_Write.calls k _ _ t527 t530 (wrap64 (1 + t531)) t532 t533 _ ?side1 ?side2 ?side3 A10.out).mono ?_); (case side1 => exact zr12); (case side2 => exact (Kd.R_reads' HO529.out).2.1); (case side3 => exact zr7); rintro e w26 ⟨rfl, hb⟩; refine ⟨_, rfl, ?_⟩; have n0_ := Aside0.mk (Kd.R_below (zr13) hb); have n1_ := Aside0.mk (blk_below (g := gb525) (o := .cells #[.int .i64 a1_0, .int .i64 a1_1] 50 (0, 0)) (zr9) hb); have n2_ := Aside0.mk (below_step (zr8) hb); clear HO529; clear BK525; clear HB; have HO529 := n0_; have BK525 := n1_; have HB := n2_; clear n0_ n1_ n2_; (try clear hb); (try clear hb2); (try clear hk); (try clear hi)))
 have n0_ := Aside0.mk (Kd.R_drew HO529.out)
 have n1_ := Aside0.mk (blk_drew BK525.out)
 have n2_ := Aside0.mk (below_drew1 HB.out)
 clear HO529
 clear BK525
 clear HB
 have HO529 := n0_
 have BK525 := n1_
 have HB := n2_
 clear n0_ n1_ n2_
 obtain ⟨i028, hi028, _, hsz28, _⟩ := info_parts info3
 obtain ⟨hcut28, hA28, hC28⟩ := print_take_of (P := Tryz.prog) (Value.int .i64) 0 25 3 .i64 Tryz.underlying25 hi028 hsz28 A3 c3 l3 (ji11) (of_decide_eq_true (zq14)) (of_decide_eq_true (zq14)) HC3.out
 have HR534 := Aside0.mk (Kd.C_of_reads (h1 := fun _ => rfl) (hA28 _ (Kd.reads_of_C HR3.out)))
 have HC534 := Aside0.mk hC28
 clear hA28 hC28 hi028 hsz28
 obtain ⟨i029, hi029, _, hsz29, _⟩ := info_parts info3
 obtain ⟨hcut29, hA29, hC29⟩ := print_take_of (P := Tryz.prog) (Value.int .i64) 0 25 3 .i64 Tryz.underlying25 hi029 hsz29 A3 c3 l3 (ji16) (of_decide_eq_true (zq14)) (of_decide_eq_true (zq14)) HC3.out
 have HR536 := Aside0.mk (Kd.C_of_reads (h1 := fun _ => rfl) (hA29 _ (Kd.reads_of_C HR3.out)))
 have HC536 := Aside0.mk hC29
 clear hA29 hC29 hi029 hsz29
 refine start_ (n := 17) (S := fun w' => True) (ds := []) #[false, false, false, false, false, false, false, false, false, false, false, false, false, false, false, false, false] (by kernel_rfl) rfl rfl trivial (fun hHeld => ?_); refine with_tabW dialtonelaw12_PlanPhases.tab6 dialtonelaw12_PlanPhases.bits6 (fun HT_ HW_ => ?_)
 generalize w26.drew = w27 at HO529 BK525 HB HR534 HR536 hHeld ⊢
 refine pure_ (i := 0) (N := some 40) (v := ?_) (a' := ?_) #[true, false, false, false, false, false, false, false, false, false, false, false, false, false, false, false, false] rfl rfl (any_of HT_.out (by kernel_rfl)) (fun _ _ _ h => h) (Or.inl ⟨by rfl, ?_⟩) ?_ ?_
 rotate_left
 ·intro w'
  go_simp
  with_reducible rfl
 rotate_left
 ·simp only [Act.put, List.setIfInBounds_toArray, List.set_cons_zero, List.set_cons_succ, i64_w, i32_w]
  rfl
 refine pure_ (i := 1) (N := some 41) (v := ?_) (a' := ?_) #[true, true, false, false, false, false, false, false, false, false, false, false, false, false, false, false, false] rfl rfl (any_of HT_.out (by kernel_rfl)) (fun _ _ _ h => h) (Or.inl ⟨by rfl, ?_⟩) ?_ ?_
 rotate_left
 ·intro w'
  go_simp
  with_reducible rfl
 rotate_left
 ·simp only [Act.put, List.setIfInBounds_toArray, List.set_cons_zero, List.set_cons_succ, i64_w, i32_w]
  rfl
 refine pure_ (i := 2) (N := some 42) (v := ?_) (a' := ?_) #[true, true, true, false, false, false, false, false, false, false, false, false, false, false, false, false, false] rfl rfl (any_of HT_.out (by kernel_rfl)) (fun _ _ _ h => h) (Or.inl ⟨by rfl, ?_⟩) ?_ ?_
 rotate_left
 ·intro w'
  go_simp
  with_reducible rfl
 rotate_left
 ·simp only [Act.put, List.setIfInBounds_toArray, List.set_cons_zero, List.set_cons_succ, i64_w, i32_w]
  rfl
 refine pure_ (i := 3) (N := some 43) (v := ?_) (a' := ?_) #[true, true, true, true, false, false, false, false, false, false, false, false, false, false, false, false, false] rfl rfl (any_of HT_.out (by kernel_rfl)) (fun _ _ _ h => h) (Or.inl ⟨by rfl, ?_⟩) ?_ ?_
 rotate_left
 ·intro w'
  go_simp
  with_reducible rfl
 rotate_left
 ·simp only [Act.put, List.setIfInBounds_toArray, List.set_cons_zero, List.set_cons_succ, i64_w, i32_w]
  rfl
 refine pure_ (i := 4) (N := some 44) (v := ?_) (a' := ?_) #[true, true, true, true, true, false, false, false, false, false, false, false, false, false, false, false, false] rfl rfl (any_of HT_.out (by kernel_rfl)) (fun _ _ _ h => h) (Or.inl ⟨by rfl, ?_⟩) ?_ ?_
 rotate_left
 ·intro w'
  go_simp
  with_reducible rfl
 rotate_left
 ·simp only [Act.put, List.setIfInBounds_toArray, List.set_cons_zero, List.set_cons_succ, i64_w, i32_w]
  rfl
 refine pure_ (i := 5) (N := some 45) (v := ?_) (a' := ?_) #[true, true, true, true, true, true, false, false, false, false, false, false, false, false, false, false, false] rfl rfl (any_of HT_.out (by kernel_rfl)) (fun _ _ _ h => h) (Or.inl ⟨by rfl, ?_⟩) ?_ ?_
 rotate_left
 ·intro w'
  go_simp
  with_reducible rfl
 rotate_left
 ·simp only [Act.put, List.setIfInBounds_toArray, List.set_cons_zero, List.set_cons_succ, i64_w, i32_w]
  rfl
 refine pure_ (i := 8) (N := some 48) (v := ?_) (a' := ?_) #[true, true, true, true, true, true, false, false, true, false, false, false, false, false, false, false, false] rfl rfl (any_of HT_.out (by kernel_rfl)) (fun _ _ _ h => h) (Or.inl ⟨by rfl, ?_⟩) ?_ ?_
 rotate_left
 ·intro w'
  go_simp
  with_reducible rfl
 rotate_left
 ·simp only [Act.put, List.setIfInBounds_toArray, List.set_cons_zero, List.set_cons_succ, i64_w, i32_w]
  rfl
 refine pure_ (i := 9) (N := some 49) (v := ?_) (a' := ?_) #[true, true, true, true, true, true, false, false, true, true, false, false, false, false, false, false, false] rfl rfl (any_of HT_.out (by kernel_rfl)) (fun _ _ _ h => h) (Or.inl ⟨by rfl, ?_⟩) ?_ ?_
 rotate_left
 ·intro w'
  go_simp
  with_reducible rfl
 rotate_left
 ·simp only [Act.put, List.setIfInBounds_toArray, List.set_cons_zero, List.set_cons_succ, i64_w, i32_w]
  rfl
 refine pure_ (i := 10) (N := some 50) (v := ?_) (a' := ?_) #[true, true, true, true, true, true, false, false, true, true, true, false, false, false, false, false, false] rfl rfl (any_of HT_.out (by kernel_rfl)) (fun _ _ _ h => h) (Or.inl ⟨by rfl, ?_⟩) ?_ ?_
 rotate_left
 ·intro w'
  go_simp
  with_reducible rfl
 rotate_left
 ·simp only [Act.put, List.setIfInBounds_toArray, List.set_cons_zero, List.set_cons_succ, i64_w, i32_w]
  rfl
 refine pure_ (i := 11) (N := some 51) (v := ?_) (a' := ?_) #[true, true, true, true, true, true, false, false, true, true, true, true, false, false, false, false, false] rfl rfl (any_of HT_.out (by kernel_rfl)) (fun _ _ _ h => h) (Or.inl ⟨by rfl, ?_⟩) ?_ ?_
 rotate_left
 ·intro w'
  go_simp
  with_reducible rfl
 rotate_left
 ·simp only [Act.put, List.setIfInBounds_toArray, List.set_cons_zero, List.set_cons_succ, i64_w, i32_w]
  rfl
 refine pure_ (i := 12) (N := some 52) (v := ?_) (a' := ?_) #[true, true, true, true, true, true, false, false, true, true, true, true, true, false, false, false, false] rfl rfl (any_of HT_.out (by kernel_rfl)) (fun _ _ _ h => h) (Or.inl ⟨by rfl, ?_⟩) ?_ ?_
 rotate_left
 ·intro w'
  go_simp
  with_reducible rfl
 rotate_left
 ·simp only [Act.put, List.setIfInBounds_toArray, List.set_cons_zero, List.set_cons_succ, i64_w, i32_w]
  rfl
 refine pure_ (i := 16) (N := some 56) (v := ?_) (a' := ?_) #[true, true, true, true, true, true, false, false, true, true, true, true, true, false, false, false, true] rfl rfl (any_of HT_.out (by kernel_rfl)) (fun _ _ _ h => h) (Or.inl ⟨by rfl, ?_⟩) ?_ ?_
 rotate_left
 ·intro w'
  go_simp
  with_reducible rfl
 rotate_left
 ·simp only [Act.put, List.setIfInBounds_toArray, List.set_cons_zero, List.set_cons_succ, i64_w, i32_w]
  rfl
 refine one_ (i := 6) (N := some 46) #[true, true, true, true, true, true, true, false, true, true, true, true, true, false, false, false, true] rfl rfl (one_of HT_.out (by kernel_rfl)) (by decide) (fun K hK => ?_)
 refine goes_ Tryz.func15 (by kernel_rfl) rfl #[.slice A3 (l3.take ((ji11) : Int).toNat).length c3] (by rfl) rfl rfl (by (try simp only [List.map_toArray, List.map_cons, List.map_nil]); first | done | (rw [show (l3.take ((ji11) : Int).toNat).length = (ji11).toNat from (by rw [List.length_take]; have h_ : ((ji11) : Int) ≤ (l3.length : Int) := of_decide_eq_true (zq14); omega)] <;> rfl) | (simp only [hji11]; rfl) | rfl | (simp only [List.length_drop, List.length_take]; rfl) | (simp (disch := omega) only [wrap64_of]; done) | (simp (disch := omega) only [wrap64_of]; rfl)) ?_
 with_reducible refine (dialtonelaw12_text.calls k _ _ (l3.take ((ji11) : Int).toNat) t535 _ ?side1 ?side2 A14.out).mono ?_
 (case side1 => repeat (first | exact (Kd.C_below HR534.out HB.out) | (with_reducible refine Kd.C_alloc ?_ _) | (with_reducible refine Kd.C_drewN ?_ _) | (with_reducible refine Kd.C_drew ?_)))
 (case side2 => exact HC534.out)
 rintro e w30 ⟨rfl, hb⟩
 refine ⟨_, rfl, ?_⟩
 have n0_ := Aside0.mk (Kd.R_below (zr13) hb)
 have n1_ := Aside0.mk (blk_below (g := gb525) (o := .cells #[.int .i64 a1_0, .int .i64 a1_1] 50 (0, 0)) (zr9) hb)
 have n2_ := Aside0.mk (below_step (zr8) hb)
 clear HO529
 clear BK525
 clear HB
 have HO529 := n0_
 have BK525 := n1_
 have HB := n2_
 clear n0_ n1_ n2_
 (try clear hb)
 (try clear hb2)
 (try clear hk)
 (try clear hi)
 refine hK.out _ _ trivial (fun hHeld => ?_)
 clear hK K
 refine norm_ (a' := ?_) ?_ ?_
 rotate_left
 ·show Act.put _ (some 46) _ = _
  simp only [Act.put, List.setIfInBounds_toArray, List.set_cons_zero, List.set_cons_succ, i64_w, i32_w]
  rfl
 refine pure_ (i := 7) (N := some 47) (v := ?_) (a' := ?_) #[true, true, true, true, true, true, true, true, true, true, true, true, true, false, false, false, true] rfl rfl (any_of HT_.out (by kernel_rfl)) (fun _ _ _ h => h) (Or.inl ⟨by rfl, ?_⟩) ?_ ?_
 rotate_left
 ·intro w'
  go_simp
  with_reducible rfl
 rotate_left
 ·simp only [Act.put, List.setIfInBounds_toArray, List.set_cons_zero, List.set_cons_succ, i64_w, i32_w]
  rfl
 refine one_ (i := 13) (N := some 53) #[true, true, true, true, true, true, true, true, true, true, true, true, true, true, false, false, true] rfl rfl (one_of HT_.out (by kernel_rfl)) (by decide) (fun K hK => ?_)
 refine goes_ Tryz.func15 (by kernel_rfl) rfl #[.slice A3 (l3.take ((ji16) : Int).toNat).length c3] (by rfl) rfl rfl (by (try simp only [List.map_toArray, List.map_cons, List.map_nil]); first | done | (rw [show (l3.take ((ji16) : Int).toNat).length = (ji16).toNat from (by rw [List.length_take]; have h_ : ((ji16) : Int) ≤ (l3.length : Int) := of_decide_eq_true (zq14); omega)] <;> rfl) | (simp only [hji16]; rfl) | rfl | (simp only [List.length_drop, List.length_take]; rfl) | (simp (disch := omega) only [wrap64_of]; done) | (simp (disch := omega) only [wrap64_of]; rfl)) ?_
 with_reducible refine (dialtonelaw12_text.calls k _ _ (l3.take ((ji16) : Int).toNat) t537 _ ?side1 ?side2 A19.out).mono ?_
 (case side1 => repeat (first | exact (Kd.C_below HR536.out HB.out) | (with_reducible refine Kd.C_alloc ?_ _) | (with_reducible refine Kd.C_drewN ?_ _) | (with_reducible refine Kd.C_drew ?_)))
 (case side2 => exact HC536.out)
 rintro e w31 ⟨rfl, hb⟩
 refine ⟨_, rfl, ?_⟩
 have n0_ := Aside0.mk (Kd.R_below (zr13) hb)
 have n1_ := Aside0.mk (blk_below (g := gb525) (o := .cells #[.int .i64 a1_0, .int .i64 a1_1] 50 (0, 0)) (zr9) hb)
 have n2_ := Aside0.mk (below_step (zr8) hb)
 clear HO529
 clear BK525
 clear HB
 have HO529 := n0_
 have BK525 := n1_
 have HB := n2_
 clear n0_ n1_ n2_
 (try clear hb)
 (try clear hb2)
 (try clear hk)
 (try clear hi)
 refine hK.out _ _ trivial (fun hHeld => ?_)
 clear hK K
 refine norm_ (a' := ?_) ?_ ?_
 rotate_left
 ·show Act.put _ (some 53) _ = _
  simp only [Act.put, List.setIfInBounds_toArray, List.set_cons_zero, List.set_cons_succ, i64_w, i32_w]
  rfl
 refine one_ (i := 14) (N := some 54) #[true, true, true, true, true, true, true, true, true, true, true, true, true, true, true, false, true] rfl rfl (one_of HT_.out (by kernel_rfl)) (by decide) (fun K hK => ?_)
 refine Kd.R_lit_step Kd.string _ 9 ?hg (N := 54) ?hd (xs := ([t532 ++ t535, t537] : List ByteArray)) (inner := [.string (t532 ++ t535), .string t537]) (ok := fun _ => True) (okp := fun _ => True) ?hr ?hp (fun _ hk => hk) trivial (Below.refl _ _) (Nat.le_refl _) (by simp) ?_; (case hd => rfl); (case hg => rfl); (case hr => exact zq0); (case hp => exact (Reps.one (show Kd.M Kd.string _ _ _ (t532 ++ t535) [.string (t532 ++ t535)] from rfl) (Reps.one (show Kd.M Kd.string _ _ _ t537 [.string t537] from rfl) (Reps.none _ _))))
 intro v539 w32 ho33 hb hg_ hnew_
 clear hg_ hnew_
 (first | rw [← Ny538.out] at ho33 | (simp only [Int.reduceToNat] at ho33; rw [← Ny538.out] at ho33))
 have n0_ := Aside0.mk (Kd.R_below (zr13) hb)
 have n1_ := Aside0.mk (Kd.R_lower ho33 (below_size (zr8)))
 have n2_ := Aside0.mk (blk_below (g := gb525) (o := .cells #[.int .i64 a1_0, .int .i64 a1_1] 50 (0, 0)) (zr9) hb)
 have n3_ := Aside0.mk (below_step (zr8) hb)
 clear HO529
 clear BK525
 clear HB
 have HO529 := n0_
 have HO540 := n1_
 have BK525 := n2_
 have HB := n3_
 clear n0_ n1_ n2_ n3_
 clear hb ho33
 obtain ⟨Ao34, co34, eo34⟩ := Kd.R_slice HO540.out
 (first | subst eo34 | (injection eo34 with f1_ f2_ f3_; have f4_ := f1_.symm; have f5_ := f3_.symm; clear f1_ f2_ f3_; subst f4_; subst f5_))
 refine hK.out _ _ trivial (fun hHeld => ?_)
 clear hK K
 refine norm_ (a' := ?_) ?_ ?_
 rotate_left
 ·show Act.put _ (some 54) _ = _
  simp only [Act.put, List.setIfInBounds_toArray, List.set_cons_zero, List.set_cons_succ, i64_w, i32_w]
  rfl
 refine pure_ (i := 15) (N := some 55) (v := ?_) (a' := ?_) #[true, true, true, true, true, true, true, true, true, true, true, true, true, true, true, true, true] rfl rfl (any_of HT_.out (by kernel_rfl)) (fun _ _ _ h => h) (Or.inl ⟨by rfl, ?_⟩) ?_ ?_
 rotate_left
 ·intro w'
  go_simp
  with_reducible rfl
 rotate_left
 ·simp only [Act.put, List.setIfInBounds_toArray, List.set_cons_zero, List.set_cons_succ, i64_w, i32_w]
  rfl
 refine done_ (done_of HT_.out (by kernel_rfl)) ?_
 try go_wp2
 go_loopg [56] k (fun kq v56 w' => ∃ (x56_1 : Int), v56 = .int .i64 x56_1 ∧ Aside0 (dialtonelaw12_PlanPhases.l0 kq true t527 y538 (y538.length : Int) x56_1 = some r) ∧ Aside0 (kq ≤ k) ∧ Aside0 (Kd.R k29 29 w' w.heap.size (fun _ => True) (.slice Ao24 t527.length co24) t527) ∧ Aside0 (Kd.R Kd.string 9 w' w.heap.size (fun _ => True) (.slice Ao34 y538.length co34) y538) ∧ Aside0 (w'.heap[gb525]? = some (.cells #[.int .i64 a1_0, .int .i64 a1_1] 50 (0, 0))) ∧ Aside0 (Below w.heap.size w w'))
 case atStart => exact ⟨(0), (zq6), H', ⟨Nat.le_refl _⟩, ⟨zr13⟩, ⟨by (with_reducible repeat (first | apply Kd.R_alloc | apply Kd.R_drewN | apply Kd.R_drew)); exact HO540.out⟩, ⟨zr9⟩, ⟨zr8⟩⟩
 case round =>
  clear H'
  try clear c1
  try clear p2
  try clear c3
  try clear c6
  try clear p6
  try clear c8
  try clear c11
  try clear c12
  try clear c12b0
  try clear c12b1
  try clear c13
  try clear c13b0
  try clear c13b1
  try clear c15
  try clear c15b0
  try clear c15b1
  try clear c15b2
  try clear c16
  try clear c17
  try clear c17b0
  try clear c17b1
  try clear c18
  try clear c18b0
  try clear c18b1
  try clear hcz23_0
  try clear hcz23_1
  try clear hfz23_0
  try clear hfz23_1
  obtain ⟨x56_1, rfl, HA, HK1, HO_10, HO_54, BK525, HB⟩ := hrel
  cases gk with
  | zero => exact absurd HA.out (by simp [dialtonelaw12_PlanPhases.l0])
  | succ k1 =>
   have H := HA.out
   clear HA
   simp only [dialtonelaw12_PlanPhases.l0] at H
   by_cases c35 : x56_1 < (y538.length : Int)
   rotate_left
   ·rw [if_neg c35] at H
    have c35b0 : decide (x56_1 < (y538.length : Int)) = false := decide_eq_false c35
    clear c35
    obtain rfl := Option.some.inj H
    go_wp2
    go_ret
    exact ⟨zr30, zr8⟩
   rw [if_pos c35] at H
   have c35b0 : decide (x56_1 < (y538.length : Int)) = true := decide_eq_true c35
   clear c35
   by_cases c36 : 0 ≤ x56_1
   rotate_left
   ·rw [if_neg c36] at H
    exact absurd H (by simp)
   rw [if_pos c36] at H
   have c36b0 : decide (0 ≤ x56_1) = true := decide_eq_true c36
   clear c36
   by_cases c37 : x56_1 < (y538.length : Int)
   rotate_left
   ·rw [if_neg c37] at H
    exact absurd H (by simp)
   rw [if_pos c37] at H
   have c37b0 : decide (x56_1 < (y538.length : Int)) = true := decide_eq_true c37
   clear c37
   replace H := Option.bind_eq_some_iff.mp H
   obtain ⟨⟨t542, t543, t544, t545, t546⟩, A380, H⟩ := H
   try dsimp only at H
   have A38 := Aside0.mk A380
   clear A380
   replace H := Option.bind_eq_some_iff.mp H
   obtain ⟨⟨t548, t549, t550, t551, t552⟩, A390, H⟩ := H
   try dsimp only at H
   have A39 := Aside0.mk A390
   clear A390
   replace H := Option.bind_eq_some_iff.mp H
   obtain ⟨⟨t554, t555, t556, t557, t558⟩, A400, H⟩ := H
   try dsimp only at H
   have A40 := Aside0.mk A400
   clear A400
   have HC41 := Aside0.mk H
   clear H
   have p541 : 0 ≤ (x56_1 : Int) := of_decide_eq_true (zq14)
   have q541 : x56_1 < (y538.length : Int) := of_decide_eq_true (zq14)
   obtain ⟨ad541, e541, hx541_0⟩ := Kd.at_string (Kd.R_reads' HO_54.out).2.2 x56_1 p541 q541
   cases e541
   replace p541 := eq_true p541
   replace q541 := eq_true q541
   go_upto_region 12 with (first | ((with_reducible refine gate_callee (f := 21) rfl ?_); refine goesL_ (some 63) rfl rfl Tryz.func21 (by kernel_rfl) rfl #[.slice Ao24 t527.length co24, .string (rdOf ByteArray.empty y538 x56_1), .int .i64 1] rfl (zq3) ?_; (with_reducible refine (plan_Read.calls k1 _ _ t527 (rdOf ByteArray.empty y538 x56_1) 1 t542 t543 t544 t545 t546 _ ?side1 ?side2 A38.out).mono ?_); (case side1 => repeat (first | exact (Kd.R_reads' HO_10.out).2.2 | (with_reducible refine Kd.C_alloc ?_ _) | (with_reducible refine Kd.C_drewN ?_ _) | (with_reducible refine Kd.C_drew ?_))); (case side2 => exact zr14); rintro e w42 ⟨rfl, hb⟩; refine ⟨_, rfl, ?_⟩; have n0_ := Aside0.mk (Kd.R_below (zr15) hb); have n1_ := Aside0.mk (Kd.R_below (zr16) hb); have n2_ := Aside0.mk (blk_below (g := gb525) (o := .cells #[.int .i64 a1_0, .int .i64 a1_1] 50 (0, 0)) (zr9) hb); have n3_ := Aside0.mk (below_step (zr8) hb); clear HO_10; clear HO_54; clear BK525; clear HB; have HO_10 := n0_; have HO_54 := n1_; have BK525 := n2_; have HB := n3_; clear n0_ n1_ n2_ n3_; (try clear hb); (try clear hb2); (try clear hk); (try clear hi)) | ((with_reducible refine gate_dst (N := 15) rfl ?_); refine box_event ?hg (N := 15) ?hd (cs := #[.int .i64 0, .int .i64 0, .int .i64 0, .int .i64 0]) (t := 44) ?hr ?_; (case hd => rfl); (case hg => rfl); (case hr => exact zq0); intro gb547 hg w43 hbox hb; have n0_ := Aside0.mk (Kd.R_below (zr15) hb); have n1_ := Aside0.mk (Kd.R_below (zr16) hb); have n2_ := Aside0.mk (blk_below (g := gb525) (o := .cells #[.int .i64 a1_0, .int .i64 a1_1] 50 (0, 0)) (zr9) hb); have n3_ := Aside0.mk (below_step (zr8) hb); have n4_ := Aside0.mk (hbox); have n5_ := Aside0.mk ((zr17 : w.heap.size ≤ gb547)); have n6_ := Aside0.mk ((zr17 : w.heap.size ≤ gb547)); have n7_ := Aside0.mk ((zr18 : gb525 ≠ gb547)); have n8_ := Aside0.mk ((zr19 : gb547 ≠ gb525)); clear HO_10; clear HO_54; clear BK525; clear HB; have HO_10 := n0_; have HO_54 := n1_; have BK525 := n2_; have HB := n3_; have BK547 := n4_; have GW547 := n5_; have GE547 := n6_; have NB525_547 := n7_; have NB547_525 := n8_; clear n0_ n1_ n2_ n3_ n4_ n5_ n6_ n7_ n8_; clear hb hbox hg; have hnb44 := NB547_525.out; have hnc44 := NB525_547.out; have hcz45_0 : w43.cell? ⟨gb547, 0, none⟩ = some (.int .i64 0) := (blk_cell BK547.out 0).trans rfl; have hcz45_1 : w43.cell? ⟨gb547, 1, none⟩ = some (.int .i64 0) := (blk_cell BK547.out 1).trans rfl; have hcz45_2 : w43.cell? ⟨gb547, 2, none⟩ = some (.int .i64 0) := (blk_cell BK547.out 2).trans rfl; have hcz45_3 : w43.cell? ⟨gb547, 3, none⟩ = some (.int .i64 0) := (blk_cell BK547.out 3).trans rfl; have hfz45_0 := blk_frozen BK547.out 0; have hfz45_1 := blk_frozen BK547.out 1; have hfz45_2 := blk_frozen BK547.out 2; have hfz45_3 := blk_frozen BK547.out 3) | ((with_reducible refine gate_callee (f := 21) rfl ?_); refine goesL_ (some 69) rfl rfl Tryz.func21 (by kernel_rfl) rfl #[.slice Ao24 t527.length co24, .string (rdOf ByteArray.empty y538 x56_1), .int .i64 2] rfl (zq3) ?_; (with_reducible refine (plan_Read.calls k1 _ _ t527 (rdOf ByteArray.empty y538 x56_1) 2 t548 t549 t550 t551 t552 _ ?side1 ?side2 A39.out).mono ?_); (case side1 => refine (Kd.R_reads' (e := 29) (base := w.heap.size) (ok := fun k_ => True) (n := t527.length) (c := co24) ?_).2.2; exact (zr20)); (case side2 => exact zr14); rintro e w46 ⟨rfl, hb⟩; refine ⟨_, rfl, ?_⟩; have n0_ := Aside0.mk (Kd.R_below (zr20) hb); have n1_ := Aside0.mk (Kd.R_below (by (with_reducible repeat (first | apply Kd.R_alloc | apply Kd.R_drewN | apply Kd.R_drew)); exact (Kd.R_mono (Kd.R_far (p := ⟨gb547, 3, none⟩) (Kd.R_far (p := ⟨gb547, 2, none⟩) (Kd.R_far (p := ⟨gb547, 1, none⟩) (Kd.R_far (p := ⟨gb547, 0, none⟩) (Kd.R_types HO_54.out BK547.out (by decide)) (fun _ hk => hk.2) (.int .i64 t542)) (fun _ hk => hk.2) (.int .i64 t543)) (fun _ hk => hk.2) (.int .i64 t544)) (fun _ hk => hk.2) (.int .i64 t545)) (fun _ h_ => h_.1))) hb); have n2_ := Aside0.mk (blk_below (g := gb525) (o := .cells #[.int .i64 a1_0, .int .i64 a1_1] 50 (0, 0)) (by (with_reducible repeat (first | refine blk_drewN ?_ _ | refine blk_drew ?_ | refine blk_alloc ?_ _)); refine blk_far ?_ NB525_547.out _; (with_reducible repeat (first | refine blk_drewN ?_ _ | refine blk_drew ?_ | refine blk_alloc ?_ _)); refine blk_far ?_ NB525_547.out _; (with_reducible repeat (first | refine blk_drewN ?_ _ | refine blk_drew ?_ | refine blk_alloc ?_ _)); refine blk_far ?_ NB525_547.out _; (with_reducible repeat (first | refine blk_drewN ?_ _ | refine blk_drew ?_ | refine blk_alloc ?_ _)); refine blk_far ?_ NB525_547.out _; (with_reducible repeat (first | refine blk_drewN ?_ _ | refine blk_drew ?_ | refine blk_alloc ?_ _)); exact BK525.out) hb); have n3_ := Aside0.mk (blk_below (g := gb547) (o := .cells #[.int .i64 t542, .int .i64 t543, .int .i64 t544, .int .i64 t545] 44 (0, 0)) (by (with_reducible repeat (first | refine blk_drewN ?_ _ | refine blk_drew ?_ | refine blk_alloc ?_ _)); refine blk_put (cs := #[.int .i64 t542, .int .i64 t543, .int .i64 t544, .int .i64 0]) ?_ 3 _ rfl; (with_reducible repeat (first | refine blk_drewN ?_ _ | refine blk_drew ?_ | refine blk_alloc ?_ _)); refine blk_put (cs := #[.int .i64 t542, .int .i64 t543, .int .i64 0, .int .i64 0]) ?_ 2 _ rfl; (with_reducible repeat (first | refine blk_drewN ?_ _ | refine blk_drew ?_ | refine blk_alloc ?_ _)); refine blk_put (cs := #[.int .i64 t542, .int .i64 0, .int .i64 0, .int .i64 0]) ?_ 1 _ rfl; (with_reducible repeat (first | refine blk_drewN ?_ _ | refine blk_drew ?_ | refine blk_alloc ?_ _)); refine blk_put (cs := #[.int .i64 0, .int .i64 0, .int .i64 0, .int .i64 0]) ?_ 0 _ rfl; (with_reducible repeat (first | refine blk_drewN ?_ _ | refine blk_drew ?_ | refine blk_alloc ?_ _)); exact BK547.out) hb); have n4_ := Aside0.mk (below_step (zr21) hb); clear HO_10; clear HO_54; clear BK525; clear BK547; clear HB; have HO_10 := n0_; have HO_54 := n1_; have BK525 := n2_; have BK547 := n3_; have HB := n4_; clear n0_ n1_ n2_ n3_ n4_; (try clear hb); (try clear hb2); (try clear hk); (try clear hi)) | ((with_reducible refine gate_dst (N := 17) rfl ?_); refine box_event ?hg (N := 17) ?hd (cs := #[.int .i64 0, .int .i64 0, .int .i64 0, .int .i64 0]) (t := 44) ?hr ?_; (case hd => rfl); (case hg => rfl); (case hr => exact zq0); intro gb553 hg w47 hbox hb; have n0_ := Aside0.mk (Kd.R_below (zr15) hb); have n1_ := Aside0.mk (Kd.R_below (zr16) hb); have n2_ := Aside0.mk (blk_below (g := gb525) (o := .cells #[.int .i64 a1_0, .int .i64 a1_1] 50 (0, 0)) (zr9) hb); have n3_ := Aside0.mk (blk_below (g := gb547) (o := .cells #[.int .i64 t542, .int .i64 t543, .int .i64 t544, .int .i64 t545] 44 (0, 0)) (zr22) hb); have n4_ := Aside0.mk (below_step (zr21) hb); have n5_ := Aside0.mk (hbox); have n6_ := Aside0.mk ((zr23 : w.heap.size ≤ gb553)); have n7_ := Aside0.mk ((zr23 : w.heap.size ≤ gb553)); have n8_ := Aside0.mk ((zr18 : gb525 ≠ gb553)); have n9_ := Aside0.mk ((zr19 : gb553 ≠ gb525)); have n10_ := Aside0.mk ((zr24 : gb547 ≠ gb553)); have n11_ := Aside0.mk ((zr25 : gb553 ≠ gb547)); clear HO_10; clear HO_54; clear BK525; clear BK547; clear HB; have HO_10 := n0_; have HO_54 := n1_; have BK525 := n2_; have BK547 := n3_; have HB := n4_; have BK553 := n5_; have GW553 := n6_; have GE553 := n7_; have NB525_553 := n8_; have NB553_525 := n9_; have NB547_553 := n10_; have NB553_547 := n11_; clear n0_ n1_ n2_ n3_ n4_ n5_ n6_ n7_ n8_ n9_ n10_ n11_; clear hb hbox hg; have hnb48 := NB553_525.out; have hnc48 := NB525_553.out; have hnb49 := NB553_547.out; have hnc49 := NB547_553.out; have hcz50_0 : w47.cell? ⟨gb553, 0, none⟩ = some (.int .i64 0) := (blk_cell BK553.out 0).trans rfl; have hcz50_1 : w47.cell? ⟨gb553, 1, none⟩ = some (.int .i64 0) := (blk_cell BK553.out 1).trans rfl; have hcz50_2 : w47.cell? ⟨gb553, 2, none⟩ = some (.int .i64 0) := (blk_cell BK553.out 2).trans rfl; have hcz50_3 : w47.cell? ⟨gb553, 3, none⟩ = some (.int .i64 0) := (blk_cell BK553.out 3).trans rfl; have hfz50_0 := blk_frozen BK553.out 0; have hfz50_1 := blk_frozen BK553.out 1; have hfz50_2 := blk_frozen BK553.out 2; have hfz50_3 := blk_frozen BK553.out 3) | ((with_reducible refine gate_callee (f := 21) rfl ?_); refine goesL_ (some 75) rfl rfl Tryz.func21 (by kernel_rfl) rfl #[.slice Ao24 t527.length co24, .string (rdOf ByteArray.empty y538 x56_1), .int .i64 3] rfl (zq3) ?_; (with_reducible refine (plan_Read.calls k1 _ _ t527 (rdOf ByteArray.empty y538 x56_1) 3 t554 t555 t556 t557 t558 _ ?side1 ?side2 A40.out).mono ?_); (case side1 => refine (Kd.R_reads' (e := 29) (base := w.heap.size) (ok := fun k_ => True) (n := t527.length) (c := co24) ?_).2.2; exact (zr26)); (case side2 => exact zr14); rintro e w51 ⟨rfl, hb⟩; refine ⟨_, rfl, ?_⟩; have n0_ := Aside0.mk (Kd.R_below (zr26) hb); have n1_ := Aside0.mk (Kd.R_below (by (with_reducible repeat (first | apply Kd.R_alloc | apply Kd.R_drewN | apply Kd.R_drew)); exact (Kd.R_mono (Kd.R_far (p := ⟨gb553, 3, none⟩) (Kd.R_far (p := ⟨gb553, 2, none⟩) (Kd.R_far (p := ⟨gb553, 1, none⟩) (Kd.R_far (p := ⟨gb553, 0, none⟩) (Kd.R_types HO_54.out BK553.out (by decide)) (fun _ hk => hk.2) (.int .i64 t548)) (fun _ hk => hk.2) (.int .i64 t549)) (fun _ hk => hk.2) (.int .i64 t550)) (fun _ hk => hk.2) (.int .i64 t551)) (fun _ h_ => h_.1))) hb); have n2_ := Aside0.mk (blk_below (g := gb525) (o := .cells #[.int .i64 a1_0, .int .i64 a1_1] 50 (0, 0)) (by (with_reducible repeat (first | refine blk_drewN ?_ _ | refine blk_drew ?_ | refine blk_alloc ?_ _)); refine blk_far ?_ NB525_553.out _; (with_reducible repeat (first | refine blk_drewN ?_ _ | refine blk_drew ?_ | refine blk_alloc ?_ _)); refine blk_far ?_ NB525_553.out _; (with_reducible repeat (first | refine blk_drewN ?_ _ | refine blk_drew ?_ | refine blk_alloc ?_ _)); refine blk_far ?_ NB525_553.out _; (with_reducible repeat (first | refine blk_drewN ?_ _ | refine blk_drew ?_ | refine blk_alloc ?_ _)); refine blk_far ?_ NB525_553.out _; (with_reducible repeat (first | refine blk_drewN ?_ _ | refine blk_drew ?_ | refine blk_alloc ?_ _)); exact BK525.out) hb); have n3_ := Aside0.mk (blk_below (g := gb547) (o := .cells #[.int .i64 t542, .int .i64 t543, .int .i64 t544, .int .i64 t545] 44 (0, 0)) (by (with_reducible repeat (first | refine blk_drewN ?_ _ | refine blk_drew ?_ | refine blk_alloc ?_ _)); refine blk_far ?_ NB547_553.out _; (with_reducible repeat (first | refine blk_drewN ?_ _ | refine blk_drew ?_ | refine blk_alloc ?_ _)); refine blk_far ?_ NB547_553.out _; (with_reducible repeat (first | refine blk_drewN ?_ _ | refine blk_drew ?_ | refine blk_alloc ?_ _)); refine blk_far ?_ NB547_553.out _; (with_reducible repeat (first | refine blk_drewN ?_ _ | refine blk_drew ?_ | refine blk_alloc ?_ _)); refine blk_far ?_ NB547_553.out _; (with_reducible repeat (first | refine blk_drewN ?_ _ | refine blk_drew ?_ | refine blk_alloc ?_ _)); exact BK547.out) hb); have n4_ := Aside0.mk (blk_below (g := gb553) (o := .cells #[.int .i64 t548, .int .i64 t549, .int .i64 t550, .int .i64 t551] 44 (0, 0)) (by (with_reducible repeat (first | refine blk_drewN ?_ _ | refine blk_drew ?_ | refine blk_alloc ?_ _)); refine blk_put (cs := #[.int .i64 t548, .int .i64 t549, .int .i64 t550, .int .i64 0]) ?_ 3 _ rfl; (with_reducible repeat (first | refine blk_drewN ?_ _ | refine blk_drew ?_ | refine blk_alloc ?_ _)); refine blk_put (cs := #[.int .i64 t548, .int .i64 t549, .int .i64 0, .int .i64 0]) ?_ 2 _ rfl; (with_reducible repeat (first | refine blk_drewN ?_ _ | refine blk_drew ?_ | refine blk_alloc ?_ _)); refine blk_put (cs := #[.int .i64 t548, .int .i64 0, .int .i64 0, .int .i64 0]) ?_ 1 _ rfl; (with_reducible repeat (first | refine blk_drewN ?_ _ | refine blk_drew ?_ | refine blk_alloc ?_ _)); refine blk_put (cs := #[.int .i64 0, .int .i64 0, .int .i64 0, .int .i64 0]) ?_ 0 _ rfl; (with_reducible repeat (first | refine blk_drewN ?_ _ | refine blk_drew ?_ | refine blk_alloc ?_ _)); exact BK553.out) hb); have n5_ := Aside0.mk (below_step (zr27) hb); clear HO_10; clear HO_54; clear BK525; clear BK547; clear BK553; clear HB; have HO_10 := n0_; have HO_54 := n1_; have BK525 := n2_; have BK547 := n3_; have BK553 := n4_; have HB := n5_; clear n0_ n1_ n2_ n3_ n4_ n5_; (try clear hb); (try clear hb2); (try clear hk); (try clear hi)) | ((with_reducible refine gate_dst (N := 19) rfl ?_); refine box_event ?hg (N := 19) ?hd (cs := #[.int .i64 0, .int .i64 0, .int .i64 0, .int .i64 0]) (t := 44) ?hr ?_; (case hd => rfl); (case hg => rfl); (case hr => exact zq0); intro gb559 hg w52 hbox hb; have n0_ := Aside0.mk (Kd.R_below (zr15) hb); have n1_ := Aside0.mk (Kd.R_below (zr16) hb); have n2_ := Aside0.mk (blk_below (g := gb525) (o := .cells #[.int .i64 a1_0, .int .i64 a1_1] 50 (0, 0)) (zr9) hb); have n3_ := Aside0.mk (blk_below (g := gb547) (o := .cells #[.int .i64 t542, .int .i64 t543, .int .i64 t544, .int .i64 t545] 44 (0, 0)) (zr22) hb); have n4_ := Aside0.mk (blk_below (g := gb553) (o := .cells #[.int .i64 t548, .int .i64 t549, .int .i64 t550, .int .i64 t551] 44 (0, 0)) (zr28) hb); have n5_ := Aside0.mk (below_step (zr27) hb); have n6_ := Aside0.mk (hbox); have n7_ := Aside0.mk ((zr29 : w.heap.size ≤ gb559)); have n8_ := Aside0.mk ((zr29 : w.heap.size ≤ gb559)); have n9_ := Aside0.mk ((zr18 : gb525 ≠ gb559)); have n10_ := Aside0.mk ((zr19 : gb559 ≠ gb525)); have n11_ := Aside0.mk ((zr24 : gb547 ≠ gb559)); have n12_ := Aside0.mk ((zr25 : gb559 ≠ gb547)); have n13_ := Aside0.mk ((by rw [hg]; exact Nat.ne_of_lt (blk_lt (g := gb553) (o := .cells #[.int .i64 t548, .int .i64 t549, .int .i64 t550, .int .i64 t551] 44 (0, 0)) (zr28)) : gb553 ≠ gb559)); have n14_ := Aside0.mk ((by rw [hg]; exact Nat.ne_of_gt (blk_lt (g := gb553) (o := .cells #[.int .i64 t548, .int .i64 t549, .int .i64 t550, .int .i64 t551] 44 (0, 0)) (zr28)) : gb559 ≠ gb553)); clear HO_10; clear HO_54; clear BK525; clear BK547; clear BK553; clear HB; have HO_10 := n0_; have HO_54 := n1_; have BK525 := n2_; have BK547 := n3_; have BK553 := n4_; have HB := n5_; have BK559 := n6_; have GW559 := n7_; have GE559 := n8_; have NB525_559 := n9_; have NB559_525 := n10_; have NB547_559 := n11_; have NB559_547 := n12_; have NB553_559 := n13_; have NB559_553 := n14_; clear n0_ n1_ n2_ n3_ n4_ n5_ n6_ n7_ n8_ n9_ n10_ n11_ n12_ n13_ n14_; clear hb hbox hg; have hnb53 := NB559_525.out; have hnc53 := NB525_559.out; have hnb54 := NB559_547.out; have hnc54 := NB547_559.out; have hnb55 := NB559_553.out; have hnc55 := NB553_559.out; have hcz56_0 : w52.cell? ⟨gb559, 0, none⟩ = some (.int .i64 0) := (blk_cell BK559.out 0).trans rfl; have hcz56_1 : w52.cell? ⟨gb559, 1, none⟩ = some (.int .i64 0) := (blk_cell BK559.out 1).trans rfl; have hcz56_2 : w52.cell? ⟨gb559, 2, none⟩ = some (.int .i64 0) := (blk_cell BK559.out 2).trans rfl; have hcz56_3 : w52.cell? ⟨gb559, 3, none⟩ = some (.int .i64 0) := (blk_cell BK559.out 3).trans rfl; have hfz56_0 := blk_frozen BK559.out 0; have hfz56_1 := blk_frozen BK559.out 1; have hfz56_2 := blk_frozen BK559.out 2; have hfz56_3 := blk_frozen BK559.out 3))
   (try simp only [Act.put, List.setIfInBounds_toArray, List.set_cons_zero, List.set_cons_succ])
   go_cut [97] (fun v97 wc => ∃ (kq : Nat) (x97_40 : Bool), v97 = .bool x97_40 ∧ Aside0 (dialtonelaw12_PlanPhases.j1 kq true t527 y538 (y538.length : Int) x56_1 x97_40 t542 t543 t544 t545 t548 t549 t550 t551 t554 t555 t556 t557 = some r) ∧ Aside0 (kq ≤ k1) ∧ Aside0 (Kd.R k29 29 wc w.heap.size (fun _ => True) (.slice Ao24 t527.length co24) t527) ∧ Aside0 (Kd.R Kd.string 9 wc w.heap.size (fun _ => True) (.slice (some ad541) y538.length co34) y538) ∧ Aside0 (wc.heap[gb525]? = some (.cells #[.int .i64 a1_0, .int .i64 a1_1] 50 (0, 0))) ∧ Aside0 (wc.heap[gb547]? = some (.cells #[.int .i64 t542, .int .i64 t543, .int .i64 t544, .int .i64 t545] 44 (0, 0))) ∧ Aside0 (wc.heap[gb553]? = some (.cells #[.int .i64 t548, .int .i64 t549, .int .i64 t550, .int .i64 t551] 44 (0, 0))) ∧ Aside0 (wc.heap[gb559]? = some (.cells #[.int .i64 t554, .int .i64 t555, .int .i64 t556, .int .i64 t557] 44 (0, 0))) ∧ Aside0 (Below w.heap.size w wc))
   case first =>
    have H := HC41.out
    clear HC41
    by_cases c57 : t546 = 0
    rotate_left
    ·rw [if_neg c57] at H
     have c57b0 : (t546 == 0) = false := beq_eq_false_iff_ne.mpr c57
     have c57b1 : (t546 != 0) = true := bne_iff_ne.mpr c57
     (first | rw [c57b0] | (simp only [i64_w, i32_w]; rw [c57b0]) | skip)
     have H' := Aside0.mk H
     clear H
     go_wp2
     go_meet
     case rel => exact ⟨_, (true), (zq6), H', ⟨zr31⟩, ⟨zr32⟩, ⟨zr33⟩, ⟨zr34⟩, ⟨zr35⟩, ⟨zr36⟩, ⟨zr37⟩, ⟨zr38⟩⟩
    rw [if_pos c57] at H
    have c57b0 : (t546 == 0) = true := beq_iff_eq.mpr c57
    have c57b1 : (t546 != 0) = false := bne_eq_false_iff_eq.mpr c57
    clear c57
    (first | rw [c57b0] | (simp only [i64_w, i32_w]; rw [c57b0]) | skip)
    by_cases c58 : t552 = 0
    rotate_left
    ·rw [if_neg c58] at H
     have c58b0 : (t552 == 0) = false := beq_eq_false_iff_ne.mpr c58
     have c58b1 : (t552 != 0) = true := bne_iff_ne.mpr c58
     have H' := Aside0.mk H
     clear H
     go_wp2
     go_meet
     case rel => exact ⟨_, (true), (zq6), H', ⟨zr31⟩, ⟨zr32⟩, ⟨zr33⟩, ⟨zr34⟩, ⟨zr35⟩, ⟨zr36⟩, ⟨zr37⟩, ⟨zr38⟩⟩
    rw [if_pos c58] at H
    have c58b0 : (t552 == 0) = true := beq_iff_eq.mpr c58
    have c58b1 : (t552 != 0) = false := bne_eq_false_iff_eq.mpr c58
    clear c58
    by_cases c59 : t558 = 0
    rotate_left
    ·rw [if_neg c59] at H
     have c59b0 : (t558 == 0) = false := beq_eq_false_iff_ne.mpr c59
     have c59b1 : (t558 != 0) = true := bne_iff_ne.mpr c59
     have H' := Aside0.mk H
     clear H
     go_wp2
     go_meet
     case rel => exact ⟨_, (true), (zq6), H', ⟨zr31⟩, ⟨zr32⟩, ⟨zr33⟩, ⟨zr34⟩, ⟨zr35⟩, ⟨zr36⟩, ⟨zr37⟩, ⟨zr38⟩⟩
    rw [if_pos c59] at H
    have c59b0 : (t558 == 0) = true := beq_iff_eq.mpr c59
    have c59b1 : (t558 != 0) = false := bne_eq_false_iff_eq.mpr c59
    clear c59
    by_cases c60 : t542 = 2
    rotate_left
    ·rw [if_neg c60] at H
     have c60b0 : (t542 == 2) = false := beq_eq_false_iff_ne.mpr c60
     have c60b1 : (t542 != 2) = true := bne_iff_ne.mpr c60
     have H' := Aside0.mk H
     clear H
     have hnb68 := NB547_525.out
     have hnc68 := NB525_547.out
     have hnb69 := NB547_553.out
     have hnc69 := NB553_547.out
     have hnb70 := NB547_559.out
     have hnc70 := NB559_547.out
     have hcz71_0 : w52.cell? ⟨gb547, 0, none⟩ = some (.int .i64 t542) := (blk_cell BK547.out 0).trans rfl
     have hcz71_1 : w52.cell? ⟨gb547, 1, none⟩ = some (.int .i64 t543) := (blk_cell BK547.out 1).trans rfl
     have hcz71_2 : w52.cell? ⟨gb547, 2, none⟩ = some (.int .i64 t544) := (blk_cell BK547.out 2).trans rfl
     have hcz71_3 : w52.cell? ⟨gb547, 3, none⟩ = some (.int .i64 t545) := (blk_cell BK547.out 3).trans rfl
     have hfz71_0 := blk_frozen BK547.out 0
     have hfz71_1 := blk_frozen BK547.out 1
     have hfz71_2 := blk_frozen BK547.out 2
     have hfz71_3 := blk_frozen BK547.out 3
     go_wp2
     go_meet
     case rel => exact ⟨_, (false), (zq6), H', ⟨zr31⟩, ⟨zr32⟩, ⟨zr33⟩, ⟨zr34⟩, ⟨zr35⟩, ⟨zr36⟩, ⟨zr37⟩, ⟨zr38⟩⟩
    rw [if_pos c60] at H
    have c60b0 : (t542 == 2) = true := beq_iff_eq.mpr c60
    have c60b1 : (t542 != 2) = false := bne_eq_false_iff_eq.mpr c60
    clear c60
    have H' := Aside0.mk H
    clear H
    have hnb61 := NB547_525.out
    have hnc61 := NB525_547.out
    have hnb62 := NB547_553.out
    have hnc62 := NB553_547.out
    have hnb63 := NB547_559.out
    have hnc63 := NB559_547.out
    have hcz64_0 : w52.cell? ⟨gb547, 0, none⟩ = some (.int .i64 t542) := (blk_cell BK547.out 0).trans rfl
    have hcz64_1 : w52.cell? ⟨gb547, 1, none⟩ = some (.int .i64 t543) := (blk_cell BK547.out 1).trans rfl
    have hcz64_2 : w52.cell? ⟨gb547, 2, none⟩ = some (.int .i64 t544) := (blk_cell BK547.out 2).trans rfl
    have hcz64_3 : w52.cell? ⟨gb547, 3, none⟩ = some (.int .i64 t545) := (blk_cell BK547.out 3).trans rfl
    have hfz64_0 := blk_frozen BK547.out 0
    have hfz64_1 := blk_frozen BK547.out 1
    have hfz64_2 := blk_frozen BK547.out 2
    have hfz64_3 := blk_frozen BK547.out 3
    have hnb65 := NB559_525.out
    have hnc65 := NB525_559.out
    have hnb66 := NB559_553.out
    have hnc66 := NB553_559.out
    have hcz67_0 : w52.cell? ⟨gb559, 0, none⟩ = some (.int .i64 0) := (blk_cell BK559.out 0).trans rfl
    have hcz67_1 : w52.cell? ⟨gb559, 1, none⟩ = some (.int .i64 0) := (blk_cell BK559.out 1).trans rfl
    have hcz67_2 : w52.cell? ⟨gb559, 2, none⟩ = some (.int .i64 0) := (blk_cell BK559.out 2).trans rfl
    have hcz67_3 : w52.cell? ⟨gb559, 3, none⟩ = some (.int .i64 0) := (blk_cell BK559.out 3).trans rfl
    have hfz67_0 := blk_frozen BK559.out 0
    have hfz67_1 := blk_frozen BK559.out 1
    have hfz67_2 := blk_frozen BK559.out 2
    have hfz67_3 := blk_frozen BK559.out 3
    go_wp2
    go_meet
    case rel => exact ⟨_, ((t554 == 2)), (zq6), H', ⟨zr31⟩, ⟨zr32⟩, ⟨zr33⟩, ⟨zr34⟩, ⟨zr35⟩, ⟨zr36⟩, ⟨zr37⟩, ⟨zr38⟩⟩
   case rest =>
    clear HC41
    try clear c1
    try clear c2
    try clear p2
    try clear c3
    try clear c4
    try clear c5
    try clear p5
    try clear q5
    try clear hx5
    try clear c6
    try clear p6
    try clear c7
    try clear c8
    try clear c11
    try clear c12
    try clear c12b0
    try clear c12b1
    try clear c13
    try clear c13b0
    try clear c13b1
    try clear c15
    try clear c15b0
    try clear c15b1
    try clear c15b2
    try clear c16
    try clear c17
    try clear c17b0
    try clear c17b1
    try clear c18
    try clear c18b0
    try clear c18b1
    try clear c21
    try clear c35
    try clear c35b0
    try clear c36
    try clear c36b0
    try clear c37
    try clear c37b0
    try clear c44
    try clear c48
    try clear c49
    try clear c53
    try clear c54
    try clear p54
    try clear q54
    try clear hx54
    try clear c55
    try clear c57
    try clear c57b0
    try clear c57b1
    try clear c58
    try clear c58b0
    try clear c58b1
    try clear c59
    try clear c59b0
    try clear c59b1
    try clear c60
    try clear c60b0
    try clear c60b1
    try clear c61
    try clear c62
    try clear c63
    try clear p64
    try clear c65
    try clear c66
    try clear c68
    try clear c69
    try clear c70
    try clear hcz23_0
    try clear hcz23_1
    try clear hcz45_0
    try clear hcz45_1
    try clear hcz45_2
    try clear hcz45_3
    try clear hcz50_0
    try clear hcz50_1
    try clear hcz50_2
    try clear hcz50_3
    try clear hcz56_0
    try clear hcz56_1
    try clear hcz56_2
    try clear hcz56_3
    try clear hcz64_0
    try clear hcz64_1
    try clear hcz64_2
    try clear hcz64_3
    try clear hcz67_0
    try clear hcz67_1
    try clear hcz67_2
    try clear hcz67_3
    try clear hcz71_0
    try clear hcz71_1
    try clear hcz71_2
    try clear hcz71_3
    try clear hfz23_0
    try clear hfz23_1
    try clear hfz45_0
    try clear hfz45_1
    try clear hfz45_2
    try clear hfz45_3
    try clear hfz50_0
    try clear hfz50_1
    try clear hfz50_2
    try clear hfz50_3
    try clear hfz56_0
    try clear hfz56_1
    try clear hfz56_2
    try clear hfz56_3
    try clear hfz64_0
    try clear hfz64_1
    try clear hfz64_2
    try clear hfz64_3
    try clear hfz67_0
    try clear hfz67_1
    try clear hfz67_2
    try clear hfz67_3
    try clear hfz71_0
    try clear hfz71_1
    try clear hfz71_2
    try clear hfz71_3
    try clear hx541_0
    try clear p2
    try clear p541
    try clear p6
    try clear q541
    obtain ⟨kq, x97_40, rfl, HA, HJ40, HO_10, HO_54, BK525, BK547, BK553, BK559, HB⟩ := hcut
    cases kq with
    | zero => exact absurd HA.out (by simp [dialtonelaw12_PlanPhases.j1])
    | succ kj40 =>
     have H := HA.out
     clear HA
     simp only [dialtonelaw12_PlanPhases.j1] at H
     by_cases c72 : x97_40 = true
     ·subst c72
      rw [if_pos rfl] at H
      obtain rfl := Option.some.inj H
      go_wp2
      go_ret
      exact ⟨zr30, zr38⟩
     replace c72 := Bool.eq_false_iff.mpr c72
     subst c72
     rw [if_neg (show ¬ (false = true) by decide)] at H
     by_cases c73 : t542 = 2
     ·rw [if_pos c73] at H
      have c73b0 : (t542 == 2) = true := beq_iff_eq.mpr c73
      have c73b1 : (t542 != 2) = false := bne_eq_false_iff_eq.mpr c73
      clear c73
      by_cases c74 : (!(t548 == t542) || (!(t549 == t543) || (!(t550 == t544) || (!(t551 == t545))))) = true
      ·rw [if_pos c74] at H
       have c74b0 : (!(t548 == t542) || (!(t549 == t543) || (!(t550 == t544) || (!(t551 == t545))))) = true := c74
       clear c74
       obtain rfl := Option.some.inj H
       have hnb75 := NB547_525.out
       have hnc75 := NB525_547.out
       have hnb76 := NB547_553.out
       have hnc76 := NB553_547.out
       have hnb77 := NB547_559.out
       have hnc77 := NB559_547.out
       have hcz78_0 : wc.cell? ⟨gb547, 0, none⟩ = some (.int .i64 t542) := (blk_cell BK547.out 0).trans rfl
       have hcz78_1 : wc.cell? ⟨gb547, 1, none⟩ = some (.int .i64 t543) := (blk_cell BK547.out 1).trans rfl
       have hcz78_2 : wc.cell? ⟨gb547, 2, none⟩ = some (.int .i64 t544) := (blk_cell BK547.out 2).trans rfl
       have hcz78_3 : wc.cell? ⟨gb547, 3, none⟩ = some (.int .i64 t545) := (blk_cell BK547.out 3).trans rfl
       have hfz78_0 := blk_frozen BK547.out 0
       have hfz78_1 := blk_frozen BK547.out 1
       have hfz78_2 := blk_frozen BK547.out 2
       have hfz78_3 := blk_frozen BK547.out 3
       have hnb79 := NB553_525.out
       have hnc79 := NB525_553.out
       have hnb80 := NB553_559.out
       have hnc80 := NB559_553.out
       have hcz81_0 : wc.cell? ⟨gb553, 0, none⟩ = some (.int .i64 t548) := (blk_cell BK553.out 0).trans rfl
       have hcz81_1 : wc.cell? ⟨gb553, 1, none⟩ = some (.int .i64 t549) := (blk_cell BK553.out 1).trans rfl
       have hcz81_2 : wc.cell? ⟨gb553, 2, none⟩ = some (.int .i64 t550) := (blk_cell BK553.out 2).trans rfl
       have hcz81_3 : wc.cell? ⟨gb553, 3, none⟩ = some (.int .i64 t551) := (blk_cell BK553.out 3).trans rfl
       have hfz81_0 := blk_frozen BK553.out 0
       have hfz81_1 := blk_frozen BK553.out 1
       have hfz81_2 := blk_frozen BK553.out 2
       have hfz81_3 := blk_frozen BK553.out 3
       go_wp2
       go_ret
       exact ⟨zr30, zr38⟩
      rw [if_neg c74] at H
      have c74b0 : (!(t548 == t542) || (!(t549 == t543) || (!(t550 == t544) || (!(t551 == t545))))) = false := by simpa using c74
      clear c74
      have H' := Aside0.mk H
      clear H
      have hnb82 := NB547_525.out
      have hnc82 := NB525_547.out
      have hnb83 := NB547_553.out
      have hnc83 := NB553_547.out
      have hnb84 := NB547_559.out
      have hnc84 := NB559_547.out
      have hcz85_0 : wc.cell? ⟨gb547, 0, none⟩ = some (.int .i64 t542) := (blk_cell BK547.out 0).trans rfl
      have hcz85_1 : wc.cell? ⟨gb547, 1, none⟩ = some (.int .i64 t543) := (blk_cell BK547.out 1).trans rfl
      have hcz85_2 : wc.cell? ⟨gb547, 2, none⟩ = some (.int .i64 t544) := (blk_cell BK547.out 2).trans rfl
      have hcz85_3 : wc.cell? ⟨gb547, 3, none⟩ = some (.int .i64 t545) := (blk_cell BK547.out 3).trans rfl
      have hfz85_0 := blk_frozen BK547.out 0
      have hfz85_1 := blk_frozen BK547.out 1
      have hfz85_2 := blk_frozen BK547.out 2
      have hfz85_3 := blk_frozen BK547.out 3
      have hnb86 := NB553_525.out
      have hnc86 := NB525_553.out
      have hnb87 := NB553_559.out
      have hnc87 := NB559_553.out
      have hcz88_0 : wc.cell? ⟨gb553, 0, none⟩ = some (.int .i64 t548) := (blk_cell BK553.out 0).trans rfl
      have hcz88_1 : wc.cell? ⟨gb553, 1, none⟩ = some (.int .i64 t549) := (blk_cell BK553.out 1).trans rfl
      have hcz88_2 : wc.cell? ⟨gb553, 2, none⟩ = some (.int .i64 t550) := (blk_cell BK553.out 2).trans rfl
      have hcz88_3 : wc.cell? ⟨gb553, 3, none⟩ = some (.int .i64 t551) := (blk_cell BK553.out 3).trans rfl
      have hfz88_0 := blk_frozen BK553.out 0
      have hfz88_1 := blk_frozen BK553.out 1
      have hfz88_2 := blk_frozen BK553.out 2
      have hfz88_3 := blk_frozen BK553.out 3
      go_wp2
      go_roundg kj40
      case measure => have := HK1.out; have := HJ40.out; omega
      case rel => exact ⟨(wrap64 (x56_1 + 1)), (zq6), H', ⟨zr39⟩, ⟨zr15⟩, ⟨zr16⟩, ⟨zr9⟩, ⟨zr38⟩⟩
     rw [if_neg c73] at H
     have c73b0 : (t542 == 2) = false := beq_eq_false_iff_ne.mpr c73
     have c73b1 : (t542 != 2) = true := bne_iff_ne.mpr c73
     by_cases c89 : t554 = 2
     ·rw [if_pos c89] at H
      have c89b0 : (t554 == 2) = true := beq_iff_eq.mpr c89
      have c89b1 : (t554 != 2) = false := bne_eq_false_iff_eq.mpr c89
      clear c89
      by_cases c90 : (!(t548 == t554) || (!(t549 == t555) || (!(t550 == t556) || (!(t551 == t557))))) = true
      ·rw [if_pos c90] at H
       have c90b0 : (!(t548 == t554) || (!(t549 == t555) || (!(t550 == t556) || (!(t551 == t557))))) = true := c90
       clear c90
       obtain rfl := Option.some.inj H
       have hnb91 := NB547_525.out
       have hnc91 := NB525_547.out
       have hnb92 := NB547_553.out
       have hnc92 := NB553_547.out
       have hnb93 := NB547_559.out
       have hnc93 := NB559_547.out
       have hcz94_0 : wc.cell? ⟨gb547, 0, none⟩ = some (.int .i64 t542) := (blk_cell BK547.out 0).trans rfl
       have hcz94_1 : wc.cell? ⟨gb547, 1, none⟩ = some (.int .i64 t543) := (blk_cell BK547.out 1).trans rfl
       have hcz94_2 : wc.cell? ⟨gb547, 2, none⟩ = some (.int .i64 t544) := (blk_cell BK547.out 2).trans rfl
       have hcz94_3 : wc.cell? ⟨gb547, 3, none⟩ = some (.int .i64 t545) := (blk_cell BK547.out 3).trans rfl
       have hfz94_0 := blk_frozen BK547.out 0
       have hfz94_1 := blk_frozen BK547.out 1
       have hfz94_2 := blk_frozen BK547.out 2
       have hfz94_3 := blk_frozen BK547.out 3
       have hnb95 := NB559_525.out
       have hnc95 := NB525_559.out
       have hnb96 := NB559_553.out
       have hnc96 := NB553_559.out
       have hcz97_0 : wc.cell? ⟨gb559, 0, none⟩ = some (.int .i64 t554) := (blk_cell BK559.out 0).trans rfl
       have hcz97_1 : wc.cell? ⟨gb559, 1, none⟩ = some (.int .i64 t555) := (blk_cell BK559.out 1).trans rfl
       have hcz97_2 : wc.cell? ⟨gb559, 2, none⟩ = some (.int .i64 t556) := (blk_cell BK559.out 2).trans rfl
       have hcz97_3 : wc.cell? ⟨gb559, 3, none⟩ = some (.int .i64 t557) := (blk_cell BK559.out 3).trans rfl
       have hfz97_0 := blk_frozen BK559.out 0
       have hfz97_1 := blk_frozen BK559.out 1
       have hfz97_2 := blk_frozen BK559.out 2
       have hfz97_3 := blk_frozen BK559.out 3
       have hnb98 := NB553_525.out
       have hnc98 := NB525_553.out
       have hcz99_0 : wc.cell? ⟨gb553, 0, none⟩ = some (.int .i64 t548) := (blk_cell BK553.out 0).trans rfl
       have hcz99_1 : wc.cell? ⟨gb553, 1, none⟩ = some (.int .i64 t549) := (blk_cell BK553.out 1).trans rfl
       have hcz99_2 : wc.cell? ⟨gb553, 2, none⟩ = some (.int .i64 t550) := (blk_cell BK553.out 2).trans rfl
       have hcz99_3 : wc.cell? ⟨gb553, 3, none⟩ = some (.int .i64 t551) := (blk_cell BK553.out 3).trans rfl
       have hfz99_0 := blk_frozen BK553.out 0
       have hfz99_1 := blk_frozen BK553.out 1
       have hfz99_2 := blk_frozen BK553.out 2
       have hfz99_3 := blk_frozen BK553.out 3
       go_wp2
       go_ret
       exact ⟨zr30, zr38⟩
      rw [if_neg c90] at H
      have c90b0 : (!(t548 == t554) || (!(t549 == t555) || (!(t550 == t556) || (!(t551 == t557))))) = false := by simpa using c90
      clear c90
      have H' := Aside0.mk H
      clear H
      have hnb100 := NB547_525.out
      have hnc100 := NB525_547.out
      have hnb101 := NB547_553.out
      have hnc101 := NB553_547.out
      have hnb102 := NB547_559.out
      have hnc102 := NB559_547.out
      have hcz103_0 : wc.cell? ⟨gb547, 0, none⟩ = some (.int .i64 t542) := (blk_cell BK547.out 0).trans rfl
      have hcz103_1 : wc.cell? ⟨gb547, 1, none⟩ = some (.int .i64 t543) := (blk_cell BK547.out 1).trans rfl
      have hcz103_2 : wc.cell? ⟨gb547, 2, none⟩ = some (.int .i64 t544) := (blk_cell BK547.out 2).trans rfl
      have hcz103_3 : wc.cell? ⟨gb547, 3, none⟩ = some (.int .i64 t545) := (blk_cell BK547.out 3).trans rfl
      have hfz103_0 := blk_frozen BK547.out 0
      have hfz103_1 := blk_frozen BK547.out 1
      have hfz103_2 := blk_frozen BK547.out 2
      have hfz103_3 := blk_frozen BK547.out 3
      have hnb104 := NB559_525.out
      have hnc104 := NB525_559.out
      have hnb105 := NB559_553.out
      have hnc105 := NB553_559.out
      have hcz106_0 : wc.cell? ⟨gb559, 0, none⟩ = some (.int .i64 t554) := (blk_cell BK559.out 0).trans rfl
      have hcz106_1 : wc.cell? ⟨gb559, 1, none⟩ = some (.int .i64 t555) := (blk_cell BK559.out 1).trans rfl
      have hcz106_2 : wc.cell? ⟨gb559, 2, none⟩ = some (.int .i64 t556) := (blk_cell BK559.out 2).trans rfl
      have hcz106_3 : wc.cell? ⟨gb559, 3, none⟩ = some (.int .i64 t557) := (blk_cell BK559.out 3).trans rfl
      have hfz106_0 := blk_frozen BK559.out 0
      have hfz106_1 := blk_frozen BK559.out 1
      have hfz106_2 := blk_frozen BK559.out 2
      have hfz106_3 := blk_frozen BK559.out 3
      have hnb107 := NB553_525.out
      have hnc107 := NB525_553.out
      have hcz108_0 : wc.cell? ⟨gb553, 0, none⟩ = some (.int .i64 t548) := (blk_cell BK553.out 0).trans rfl
      have hcz108_1 : wc.cell? ⟨gb553, 1, none⟩ = some (.int .i64 t549) := (blk_cell BK553.out 1).trans rfl
      have hcz108_2 : wc.cell? ⟨gb553, 2, none⟩ = some (.int .i64 t550) := (blk_cell BK553.out 2).trans rfl
      have hcz108_3 : wc.cell? ⟨gb553, 3, none⟩ = some (.int .i64 t551) := (blk_cell BK553.out 3).trans rfl
      have hfz108_0 := blk_frozen BK553.out 0
      have hfz108_1 := blk_frozen BK553.out 1
      have hfz108_2 := blk_frozen BK553.out 2
      have hfz108_3 := blk_frozen BK553.out 3
      go_wp2
      go_roundg kj40
      case measure => have := HK1.out; have := HJ40.out; omega
      case rel => exact ⟨(wrap64 (x56_1 + 1)), (zq6), H', ⟨zr39⟩, ⟨zr15⟩, ⟨zr16⟩, ⟨zr9⟩, ⟨zr38⟩⟩
     rw [if_neg c89] at H
     have c89b0 : (t554 == 2) = false := beq_eq_false_iff_ne.mpr c89
     have c89b1 : (t554 != 2) = true := bne_iff_ne.mpr c89
     by_cases c109 : t548 = 2
     ·rw [if_pos c109] at H
      have c109b0 : (t548 == 2) = true := beq_iff_eq.mpr c109
      have c109b1 : (t548 != 2) = false := bne_eq_false_iff_eq.mpr c109
      clear c109
      obtain rfl := Option.some.inj H
      have hnb110 := NB547_525.out
      have hnc110 := NB525_547.out
      have hnb111 := NB547_553.out
      have hnc111 := NB553_547.out
      have hnb112 := NB547_559.out
      have hnc112 := NB559_547.out
      have hcz113_0 : wc.cell? ⟨gb547, 0, none⟩ = some (.int .i64 t542) := (blk_cell BK547.out 0).trans rfl
      have hcz113_1 : wc.cell? ⟨gb547, 1, none⟩ = some (.int .i64 t543) := (blk_cell BK547.out 1).trans rfl
      have hcz113_2 : wc.cell? ⟨gb547, 2, none⟩ = some (.int .i64 t544) := (blk_cell BK547.out 2).trans rfl
      have hcz113_3 : wc.cell? ⟨gb547, 3, none⟩ = some (.int .i64 t545) := (blk_cell BK547.out 3).trans rfl
      have hfz113_0 := blk_frozen BK547.out 0
      have hfz113_1 := blk_frozen BK547.out 1
      have hfz113_2 := blk_frozen BK547.out 2
      have hfz113_3 := blk_frozen BK547.out 3
      have hnb114 := NB559_525.out
      have hnc114 := NB525_559.out
      have hnb115 := NB559_553.out
      have hnc115 := NB553_559.out
      have hcz116_0 : wc.cell? ⟨gb559, 0, none⟩ = some (.int .i64 t554) := (blk_cell BK559.out 0).trans rfl
      have hcz116_1 : wc.cell? ⟨gb559, 1, none⟩ = some (.int .i64 t555) := (blk_cell BK559.out 1).trans rfl
      have hcz116_2 : wc.cell? ⟨gb559, 2, none⟩ = some (.int .i64 t556) := (blk_cell BK559.out 2).trans rfl
      have hcz116_3 : wc.cell? ⟨gb559, 3, none⟩ = some (.int .i64 t557) := (blk_cell BK559.out 3).trans rfl
      have hfz116_0 := blk_frozen BK559.out 0
      have hfz116_1 := blk_frozen BK559.out 1
      have hfz116_2 := blk_frozen BK559.out 2
      have hfz116_3 := blk_frozen BK559.out 3
      have hnb117 := NB553_525.out
      have hnc117 := NB525_553.out
      have hcz118_0 : wc.cell? ⟨gb553, 0, none⟩ = some (.int .i64 t548) := (blk_cell BK553.out 0).trans rfl
      have hcz118_1 : wc.cell? ⟨gb553, 1, none⟩ = some (.int .i64 t549) := (blk_cell BK553.out 1).trans rfl
      have hcz118_2 : wc.cell? ⟨gb553, 2, none⟩ = some (.int .i64 t550) := (blk_cell BK553.out 2).trans rfl
      have hcz118_3 : wc.cell? ⟨gb553, 3, none⟩ = some (.int .i64 t551) := (blk_cell BK553.out 3).trans rfl
      have hfz118_0 := blk_frozen BK553.out 0
      have hfz118_1 := blk_frozen BK553.out 1
      have hfz118_2 := blk_frozen BK553.out 2
      have hfz118_3 := blk_frozen BK553.out 3
      go_wp2
      go_ret
      exact ⟨zr30, zr38⟩
     rw [if_neg c109] at H
     have c109b0 : (t548 == 2) = false := beq_eq_false_iff_ne.mpr c109
     have c109b1 : (t548 != 2) = true := bne_iff_ne.mpr c109
     by_cases c119 : t542 = 1
     ·rw [if_pos c119] at H
      have c119b0 : (t542 == 1) = true := beq_iff_eq.mpr c119
      have c119b1 : (t542 != 1) = false := bne_eq_false_iff_eq.mpr c119
      clear c119
      by_cases c120 : ((t548 == 1) != true) = true
      ·rw [if_pos c120] at H
       have c120b0 : ((t548 == 1) != true) = true := c120
       (try (have c120b1 : decide ((t548 == 1) = true) = false := by simpa using c120))
       (try (have c120b2 : ((t548 == 1) == true) = false := by simpa using c120))
       (try (have c120b3 : ¬ ((t548 == 1) = true) := by simpa using c120))
       clear c120
       obtain rfl := Option.some.inj H
       have hnb121 := NB547_525.out
       have hnc121 := NB525_547.out
       have hnb122 := NB547_553.out
       have hnc122 := NB553_547.out
       have hnb123 := NB547_559.out
       have hnc123 := NB559_547.out
       have hcz124_0 : wc.cell? ⟨gb547, 0, none⟩ = some (.int .i64 t542) := (blk_cell BK547.out 0).trans rfl
       have hcz124_1 : wc.cell? ⟨gb547, 1, none⟩ = some (.int .i64 t543) := (blk_cell BK547.out 1).trans rfl
       have hcz124_2 : wc.cell? ⟨gb547, 2, none⟩ = some (.int .i64 t544) := (blk_cell BK547.out 2).trans rfl
       have hcz124_3 : wc.cell? ⟨gb547, 3, none⟩ = some (.int .i64 t545) := (blk_cell BK547.out 3).trans rfl
       have hfz124_0 := blk_frozen BK547.out 0
       have hfz124_1 := blk_frozen BK547.out 1
       have hfz124_2 := blk_frozen BK547.out 2
       have hfz124_3 := blk_frozen BK547.out 3
       have hnb125 := NB559_525.out
       have hnc125 := NB525_559.out
       have hnb126 := NB559_553.out
       have hnc126 := NB553_559.out
       have hcz127_0 : wc.cell? ⟨gb559, 0, none⟩ = some (.int .i64 t554) := (blk_cell BK559.out 0).trans rfl
       have hcz127_1 : wc.cell? ⟨gb559, 1, none⟩ = some (.int .i64 t555) := (blk_cell BK559.out 1).trans rfl
       have hcz127_2 : wc.cell? ⟨gb559, 2, none⟩ = some (.int .i64 t556) := (blk_cell BK559.out 2).trans rfl
       have hcz127_3 : wc.cell? ⟨gb559, 3, none⟩ = some (.int .i64 t557) := (blk_cell BK559.out 3).trans rfl
       have hfz127_0 := blk_frozen BK559.out 0
       have hfz127_1 := blk_frozen BK559.out 1
       have hfz127_2 := blk_frozen BK559.out 2
       have hfz127_3 := blk_frozen BK559.out 3
       have hnb128 := NB553_525.out
       have hnc128 := NB525_553.out
       have hcz129_0 : wc.cell? ⟨gb553, 0, none⟩ = some (.int .i64 t548) := (blk_cell BK553.out 0).trans rfl
       have hcz129_1 : wc.cell? ⟨gb553, 1, none⟩ = some (.int .i64 t549) := (blk_cell BK553.out 1).trans rfl
       have hcz129_2 : wc.cell? ⟨gb553, 2, none⟩ = some (.int .i64 t550) := (blk_cell BK553.out 2).trans rfl
       have hcz129_3 : wc.cell? ⟨gb553, 3, none⟩ = some (.int .i64 t551) := (blk_cell BK553.out 3).trans rfl
       have hfz129_0 := blk_frozen BK553.out 0
       have hfz129_1 := blk_frozen BK553.out 1
       have hfz129_2 := blk_frozen BK553.out 2
       have hfz129_3 := blk_frozen BK553.out 3
       go_wp2
       go_ret
       exact ⟨zr30, zr38⟩
      rw [if_neg c120] at H
      have c120b0 : ((t548 == 1) != true) = false := by simpa using c120
      (try (have c120b1 : decide ((t548 == 1) = true) = true := by simpa using c120))
      (try (have c120b2 : ((t548 == 1) == true) = true := by simpa using c120))
      clear c120
      have H' := Aside0.mk H
      clear H
      have hnb130 := NB547_525.out
      have hnc130 := NB525_547.out
      have hnb131 := NB547_553.out
      have hnc131 := NB553_547.out
      have hnb132 := NB547_559.out
      have hnc132 := NB559_547.out
      have hcz133_0 : wc.cell? ⟨gb547, 0, none⟩ = some (.int .i64 t542) := (blk_cell BK547.out 0).trans rfl
      have hcz133_1 : wc.cell? ⟨gb547, 1, none⟩ = some (.int .i64 t543) := (blk_cell BK547.out 1).trans rfl
      have hcz133_2 : wc.cell? ⟨gb547, 2, none⟩ = some (.int .i64 t544) := (blk_cell BK547.out 2).trans rfl
      have hcz133_3 : wc.cell? ⟨gb547, 3, none⟩ = some (.int .i64 t545) := (blk_cell BK547.out 3).trans rfl
      have hfz133_0 := blk_frozen BK547.out 0
      have hfz133_1 := blk_frozen BK547.out 1
      have hfz133_2 := blk_frozen BK547.out 2
      have hfz133_3 := blk_frozen BK547.out 3
      have hnb134 := NB559_525.out
      have hnc134 := NB525_559.out
      have hnb135 := NB559_553.out
      have hnc135 := NB553_559.out
      have hcz136_0 : wc.cell? ⟨gb559, 0, none⟩ = some (.int .i64 t554) := (blk_cell BK559.out 0).trans rfl
      have hcz136_1 : wc.cell? ⟨gb559, 1, none⟩ = some (.int .i64 t555) := (blk_cell BK559.out 1).trans rfl
      have hcz136_2 : wc.cell? ⟨gb559, 2, none⟩ = some (.int .i64 t556) := (blk_cell BK559.out 2).trans rfl
      have hcz136_3 : wc.cell? ⟨gb559, 3, none⟩ = some (.int .i64 t557) := (blk_cell BK559.out 3).trans rfl
      have hfz136_0 := blk_frozen BK559.out 0
      have hfz136_1 := blk_frozen BK559.out 1
      have hfz136_2 := blk_frozen BK559.out 2
      have hfz136_3 := blk_frozen BK559.out 3
      have hnb137 := NB553_525.out
      have hnc137 := NB525_553.out
      have hcz138_0 : wc.cell? ⟨gb553, 0, none⟩ = some (.int .i64 t548) := (blk_cell BK553.out 0).trans rfl
      have hcz138_1 : wc.cell? ⟨gb553, 1, none⟩ = some (.int .i64 t549) := (blk_cell BK553.out 1).trans rfl
      have hcz138_2 : wc.cell? ⟨gb553, 2, none⟩ = some (.int .i64 t550) := (blk_cell BK553.out 2).trans rfl
      have hcz138_3 : wc.cell? ⟨gb553, 3, none⟩ = some (.int .i64 t551) := (blk_cell BK553.out 3).trans rfl
      have hfz138_0 := blk_frozen BK553.out 0
      have hfz138_1 := blk_frozen BK553.out 1
      have hfz138_2 := blk_frozen BK553.out 2
      have hfz138_3 := blk_frozen BK553.out 3
      go_wp2
      go_roundg kj40
      case measure => have := HK1.out; have := HJ40.out; omega
      case rel => exact ⟨(wrap64 (x56_1 + 1)), (zq6), H', ⟨zr39⟩, ⟨zr15⟩, ⟨zr16⟩, ⟨zr9⟩, ⟨zr38⟩⟩
     rw [if_neg c119] at H
     have c119b0 : (t542 == 1) = false := beq_eq_false_iff_ne.mpr c119
     have c119b1 : (t542 != 1) = true := bne_iff_ne.mpr c119
     by_cases c139 : ((t548 == 1) != (t554 == 1)) = true
     ·rw [if_pos c139] at H
      have c139b0 : ((t548 == 1) != (t554 == 1)) = true := c139
      (try (have c139b1 : decide ((t548 == 1) = (t554 == 1)) = false := by simpa using c139))
      (try (have c139b2 : ((t548 == 1) == (t554 == 1)) = false := by simpa using c139))
      (try (have c139b3 : ¬ ((t548 == 1) = (t554 == 1)) := by simpa using c139))
      clear c139
      obtain rfl := Option.some.inj H
      have hnb140 := NB547_525.out
      have hnc140 := NB525_547.out
      have hnb141 := NB547_553.out
      have hnc141 := NB553_547.out
      have hnb142 := NB547_559.out
      have hnc142 := NB559_547.out
      have hcz143_0 : wc.cell? ⟨gb547, 0, none⟩ = some (.int .i64 t542) := (blk_cell BK547.out 0).trans rfl
      have hcz143_1 : wc.cell? ⟨gb547, 1, none⟩ = some (.int .i64 t543) := (blk_cell BK547.out 1).trans rfl
      have hcz143_2 : wc.cell? ⟨gb547, 2, none⟩ = some (.int .i64 t544) := (blk_cell BK547.out 2).trans rfl
      have hcz143_3 : wc.cell? ⟨gb547, 3, none⟩ = some (.int .i64 t545) := (blk_cell BK547.out 3).trans rfl
      have hfz143_0 := blk_frozen BK547.out 0
      have hfz143_1 := blk_frozen BK547.out 1
      have hfz143_2 := blk_frozen BK547.out 2
      have hfz143_3 := blk_frozen BK547.out 3
      have hnb144 := NB559_525.out
      have hnc144 := NB525_559.out
      have hnb145 := NB559_553.out
      have hnc145 := NB553_559.out
      have hcz146_0 : wc.cell? ⟨gb559, 0, none⟩ = some (.int .i64 t554) := (blk_cell BK559.out 0).trans rfl
      have hcz146_1 : wc.cell? ⟨gb559, 1, none⟩ = some (.int .i64 t555) := (blk_cell BK559.out 1).trans rfl
      have hcz146_2 : wc.cell? ⟨gb559, 2, none⟩ = some (.int .i64 t556) := (blk_cell BK559.out 2).trans rfl
      have hcz146_3 : wc.cell? ⟨gb559, 3, none⟩ = some (.int .i64 t557) := (blk_cell BK559.out 3).trans rfl
      have hfz146_0 := blk_frozen BK559.out 0
      have hfz146_1 := blk_frozen BK559.out 1
      have hfz146_2 := blk_frozen BK559.out 2
      have hfz146_3 := blk_frozen BK559.out 3
      have hnb147 := NB553_525.out
      have hnc147 := NB525_553.out
      have hcz148_0 : wc.cell? ⟨gb553, 0, none⟩ = some (.int .i64 t548) := (blk_cell BK553.out 0).trans rfl
      have hcz148_1 : wc.cell? ⟨gb553, 1, none⟩ = some (.int .i64 t549) := (blk_cell BK553.out 1).trans rfl
      have hcz148_2 : wc.cell? ⟨gb553, 2, none⟩ = some (.int .i64 t550) := (blk_cell BK553.out 2).trans rfl
      have hcz148_3 : wc.cell? ⟨gb553, 3, none⟩ = some (.int .i64 t551) := (blk_cell BK553.out 3).trans rfl
      have hfz148_0 := blk_frozen BK553.out 0
      have hfz148_1 := blk_frozen BK553.out 1
      have hfz148_2 := blk_frozen BK553.out 2
      have hfz148_3 := blk_frozen BK553.out 3
      go_wp2
      go_ret
      exact ⟨zr30, zr38⟩
     rw [if_neg c139] at H
     have c139b0 : ((t548 == 1) != (t554 == 1)) = false := by simpa using c139
     (try (have c139b1 : decide ((t548 == 1) = (t554 == 1)) = true := by simpa using c139))
     (try (have c139b2 : ((t548 == 1) == (t554 == 1)) = true := by simpa using c139))
     clear c139
     have H' := Aside0.mk H
     clear H
     have hnb149 := NB547_525.out
     have hnc149 := NB525_547.out
     have hnb150 := NB547_553.out
     have hnc150 := NB553_547.out
     have hnb151 := NB547_559.out
     have hnc151 := NB559_547.out
     have hcz152_0 : wc.cell? ⟨gb547, 0, none⟩ = some (.int .i64 t542) := (blk_cell BK547.out 0).trans rfl
     have hcz152_1 : wc.cell? ⟨gb547, 1, none⟩ = some (.int .i64 t543) := (blk_cell BK547.out 1).trans rfl
     have hcz152_2 : wc.cell? ⟨gb547, 2, none⟩ = some (.int .i64 t544) := (blk_cell BK547.out 2).trans rfl
     have hcz152_3 : wc.cell? ⟨gb547, 3, none⟩ = some (.int .i64 t545) := (blk_cell BK547.out 3).trans rfl
     have hfz152_0 := blk_frozen BK547.out 0
     have hfz152_1 := blk_frozen BK547.out 1
     have hfz152_2 := blk_frozen BK547.out 2
     have hfz152_3 := blk_frozen BK547.out 3
     have hnb153 := NB559_525.out
     have hnc153 := NB525_559.out
     have hnb154 := NB559_553.out
     have hnc154 := NB553_559.out
     have hcz155_0 : wc.cell? ⟨gb559, 0, none⟩ = some (.int .i64 t554) := (blk_cell BK559.out 0).trans rfl
     have hcz155_1 : wc.cell? ⟨gb559, 1, none⟩ = some (.int .i64 t555) := (blk_cell BK559.out 1).trans rfl
     have hcz155_2 : wc.cell? ⟨gb559, 2, none⟩ = some (.int .i64 t556) := (blk_cell BK559.out 2).trans rfl
     have hcz155_3 : wc.cell? ⟨gb559, 3, none⟩ = some (.int .i64 t557) := (blk_cell BK559.out 3).trans rfl
     have hfz155_0 := blk_frozen BK559.out 0
     have hfz155_1 := blk_frozen BK559.out 1
     have hfz155_2 := blk_frozen BK559.out 2
     have hfz155_3 := blk_frozen BK559.out 3
     have hnb156 := NB553_525.out
     have hnc156 := NB525_553.out
     have hcz157_0 : wc.cell? ⟨gb553, 0, none⟩ = some (.int .i64 t548) := (blk_cell BK553.out 0).trans rfl
     have hcz157_1 : wc.cell? ⟨gb553, 1, none⟩ = some (.int .i64 t549) := (blk_cell BK553.out 1).trans rfl
     have hcz157_2 : wc.cell? ⟨gb553, 2, none⟩ = some (.int .i64 t550) := (blk_cell BK553.out 2).trans rfl
     have hcz157_3 : wc.cell? ⟨gb553, 3, none⟩ = some (.int .i64 t551) := (blk_cell BK553.out 3).trans rfl
     have hfz157_0 := blk_frozen BK553.out 0
     have hfz157_1 := blk_frozen BK553.out 1
     have hfz157_2 := blk_frozen BK553.out 2
     have hfz157_3 := blk_frozen BK553.out 3
     go_wp2
     go_roundg kj40
     case measure => have := HK1.out; have := HJ40.out; omega
     case rel => exact ⟨(wrap64 (x56_1 + 1)), (zq6), H', ⟨zr39⟩, ⟨zr15⟩, ⟨zr16⟩, ⟨zr9⟩, ⟨zr38⟩⟩
end Go.Proofs.YtlmfoblgheepoaaGreatDoor.Pl
end
section
open Go.Proofs.YtlmfoblgheepoaaGreatDoor.Z
namespace Go.Proofs.YtlmfoblgheepoaaGreatDoor.Pl
open Go.RowKit Go.Proofs.YtlmfoblgheepoaaGreatDoorW.PrintWords Go.Proofs.YtlmfoblgheepoaaGreatDoorW.PrintLast Go.Proofs.YtlmfoblgheepoaaGreatDoorW.PrintMore
attribute [local go_sem] max2_int min2_int max_two min_two max_three min_three max_four min_four
set_option linter.unusedVariables false
set_option linter.unusedSimpArgs false
def dialtoneref12_Code.T6 : Bool × List (List Nat × List Nat) := (true, [([], []), ([], []), ([0, 1], [0, 1]), ([2], [2]), ([3], [3]), ([], []), ([5], [5]), ([4, 6, 6], [4, 6])])
def dialtoneref12_Code.B6 : List Nat := [0, 0, 3, 7, 15, 0, 32, 127]
theorem dialtoneref12_Code.tab6 : rtab .any (opsOf Tryz.f42 6) = dialtoneref12_Code.T6 := by kernel_rfl
theorem dialtoneref12_Code.bits6 : waitsOk dialtoneref12_Code.T6.2 dialtoneref12_Code.B6 = true := by kernel_rfl
end Go.Proofs.YtlmfoblgheepoaaGreatDoor.Pl
end
section
namespace Go.Proofs.YtlmfoblgheepoaaGreatDoor.Pure
open Go.RowKit Go.Proofs.YtlmfoblgheepoaaGreatDoorW.PrintWords Go.Proofs.YtlmfoblgheepoaaGreatDoorW.PrintLast Go.Proofs.YtlmfoblgheepoaaGreatDoorW.PrintMore Go.Proofs.YtlmfoblgheepoaaGreatDoor.Pl
set_option linter.unusedVariables false
set_option linter.unusedSimpArgs false
theorem digitVal_of {b : UInt8} (h : isD b = true) : Lib.digitVal b = some (b.toNat - 48) := by
  have := (isD_iff b).mp h
  unfold Lib.digitVal
  rw [if_pos this]
theorem decFrom_val : ∀ (l : D) (a : Nat), digs l = true → Lib.decFrom a l = some (valF a l)
  | [], a, _ => rfl
  | b :: r, a, h => by
    have hb : isD b = true ∧ digs r = true := by simpa [digs] using h
    rw [Lib.decFrom, digitVal_of hb.1, valF_cons]
    exact decFrom_val r _ hb.2
theorem atoi_val (l : D) (h : digs l = true) (h0 : l ≠ []) : Lib.atoi l = some (val l : Int) := by
  cases l with
  | nil => exact absurd rfl h0
  | cons b r =>
    have hb : isD b = true ∧ digs r = true := by simpa [digs] using h
    have hb' := (isD_iff b).mp hb.1
    have n1 : (b == 45) = false := by
      rw [beq_eq_false_iff_ne]; intro e; subst e; simp at hb'
    have n2 : (b == 43) = false := by
      rw [beq_eq_false_iff_ne]; intro e; subst e; simp at hb'
    rw [Lib.atoi, n1, n2]
    simp only [Bool.false_eq_true, if_false]
    rw [Lib.decNat]
    simp only [List.isEmpty_cons, Bool.false_eq_true, if_false]
    rw [decFrom_val _ _ h]
    rfl
theorem atoi_eq (s : ByteArray) (h : s.size ≤ 18) (hd : digs s.data.toList = true) (h0 : 1 ≤ s.size) : strconv_Atoi.f s = some ((val s.data.toList : Int), none) := by
  unfold strconv_Atoi.f
  rw [if_pos h, atoi_val _ hd]
  · rfl
  · intro e; rw [Lib.size_eq, e] at h0; simp at h0
end Go.Proofs.YtlmfoblgheepoaaGreatDoor.Pure
end
section
namespace Go.Proofs.YtlmfoblgheepoaaGreatDoor.Pure
open Go.RowKit Go.Proofs.YtlmfoblgheepoaaGreatDoorW.PrintWords Go.Proofs.YtlmfoblgheepoaaGreatDoorW.PrintLast Go.Proofs.YtlmfoblgheepoaaGreatDoorW.PrintMore Go.Proofs.YtlmfoblgheepoaaGreatDoor.Pl
set_option linter.unusedVariables false
set_option linter.unusedSimpArgs false
theorem b_of (s : ByteArray) : b s.data.toList = s := ba_ext (by rw [b_data])
theorem b_append (x y : D) : b x ++ b y = b (x ++ y) := ba_ext (by simp [b_data])
end Go.Proofs.YtlmfoblgheepoaaGreatDoor.Pure
end
section
namespace Go.Proofs.YtlmfoblgheepoaaGreatDoor.Pure
open Go.RowKit Go.Proofs.YtlmfoblgheepoaaGreatDoorW.PrintWords Go.Proofs.YtlmfoblgheepoaaGreatDoorW.PrintLast Go.Proofs.YtlmfoblgheepoaaGreatDoorW.PrintMore Go.Proofs.YtlmfoblgheepoaaGreatDoor.Pl
set_option linter.unusedVariables false
set_option linter.unusedSimpArgs false
structure EnOk (e : En) : Prop where
  kd : digs e.key = true
  sd : digs e.st = true
  k1 : 1 ≤ e.key.length
  s1 : 1 ≤ e.st.length
  kl : (e.key.length : Int) < e.len
  l8 : e.len ≤ 8
  tot : (e.st.length : Int) + (e.len - e.key.length) = 8
  key5 : e.key.length ≤ 5
theorem digs_rep (n : Nat) : digs (List.replicate n 48) = true := by
  unfold digs; rw [List.all_replicate]; simp; right; decide
theorem eOld_ok {c : S29} (h : One c) (i : Nat) : EnOk (eOld i c) := by
  have a1 := h.o1; have a2 := h.o4; have a3 := h.n1; have a4 := h.n5; have a5 := h.l1; have a6 := h.l7; have a7 := h.rm
  refine ⟨h.od, ?_, h.o1, ?_, h.l1, ?_, ?_, ?_⟩
  · simp only [eOld]; rw [digs_append, h.nd, digs_rep]; rfl
  · simp only [eOld]; rw [List.length_append]; omega
  · simp only [eOld]; omega
  · simp only [eOld, zs]; rw [List.length_append, List.length_replicate]; omega
  · simp only [eOld]; omega
theorem eNew_ok {c : S29} (h : One c) (i : Nat) : EnOk (eNew i c) := by
  have a1 := h.o1; have a2 := h.o4; have a3 := h.n1; have a4 := h.n5; have a5 := h.l1; have a6 := h.l7; have a7 := h.rm
  refine ⟨h.nd, h.nd, h.n1, h.n1, ?_, ?_, ?_, ?_⟩ <;> simp only [eNew] <;> omega
theorem es_ok {c : S29} (h : One c) {ph : Int} {i : Nat} {e : En} (he : e ∈ es ph i c) : EnOk e := by
  unfold es at he
  rcases List.mem_append.mp he with he | he
  · split at he
    · rw [List.mem_singleton.mp he]; exact eOld_ok h i
    · cases he
  · split at he
    · rw [List.mem_singleton.mp he]; exact eNew_ok h i
    · cases he
theorem ents_ok {ph : Int} : ∀ {p : List S29} {i : Nat} {e : En}, (∀ c ∈ p, One c) → e ∈ ents ph p i → EnOk e
  | [], _, _, _, he => by cases he
  | c :: r, i, e, hp, he => by
    rcases List.mem_append.mp he with he | he
    · exact es_ok (hp c List.mem_cons_self) he
    · exact ents_ok (fun x hx => hp x (List.mem_cons_of_mem _ hx)) he
def hitS (e : En) (d : D) : Int × Int × Int × Int × Int :=
  if (d.length : Int) < e.len then (1, 0, 0, 0, 0) else (2, (val (e.st ++ (d.drop e.key.length).take (e.len.toNat - e.key.length)) : Int), e.idx, e.len, 0)
def rE (l : List En) (d : D) : Int × Int × Int × Int × Int :=
  match l.find? (fun e => e.key.isPrefixOf d) with
  | some e => hitS e d
  | none => if l.any (fun e => d.isPrefixOf e.key) = true then (1, 0, 0, 0, 0) else (0, 0, 0, 0, 0)
def rS (p : List S29) (d : D) (ph : Int) : Int × Int × Int × Int × Int := rE (ents ph p 0) d
def toB (e : En) : ByteArray × Ent := (b e.key, (e.idx, e.len, b e.st))
theorem entGo_eq (ph : Int) : ∀ (p : List S29) (i : Nat) (L : List (ByteArray × Ent)), (∀ c ∈ p, One c) → entGo ph p i L = some (((ents ph p i).map toB).reverse ++ L)
  | [], i, L, _ => rfl
  | c :: r, i, L, h => by
    have hc := h c List.mem_cons_self
    have e0 : c.f0.size = (co c).length := Lib.size_eq _
    have e1 : c.f1.size = (cn c).length := Lib.size_eq _
    have a1 := hc.o1; have a2 := hc.o4; have a3 := hc.n1; have a4 := hc.n5; have a5 := hc.l1; have a6 := hc.l7; have a7 := hc.rm
    rw [entGo, ents]
    have hst : entStep ph c i L = some (((es ph i c).map toB).reverse ++ L) := by
      unfold entStep
      rw [if_pos ⟨by omega, by omega⟩]
      unfold es
      have bo : b (co c) = c.f0 := b_of _
      have bn : b (cn c) = c.f1 := b_of _
      by_cases h3 : ph = 3
      · by_cases h1 : ph = 1
        · omega
        · simp [h3, h1, toB, eNew, bn]
      · have hz : strings_Repeat.f (⟨#[48]⟩ : ByteArray) (wrap64 (wrap64 (8 - (c.f1.size : Int)) - (c.f2 - ((co c).length : Int)))) = some (b (List.replicate (zs c) 48)) := by
          rw [e1, w64 (n := 8 - ((cn c).length : Int)) (by omega) (by omega), w64 (by omega) (by omega)]
          unfold strings_Repeat.f
          have hone : (⟨#[48]⟩ : ByteArray).size = 1 := rfl
          rw [if_pos ⟨by omega, by omega, by rw [hone]; omega⟩]
          have := Lib.repeatL_replicate (48 : UInt8) 1 (zs c)
          simp only [Nat.mul_one] at this
          have e' : Lib.repeatL (⟨#[48]⟩ : ByteArray).data.toList (8 - ((cn c).length : Int) - (c.f2 - ((co c).length : Int))).toNat = List.replicate (zs c) 48 := this
          rw [e']; rfl
        have hsz : c.f1.size + (b (List.replicate (zs c) 48)).size ≤ 9223372036854775807 := by
          rw [b_size, List.length_replicate]; unfold zs; omega
        have hb : c.f1 ++ b (List.replicate (zs c) 48) = b (cn c ++ List.replicate (zs c) 48) := by rw [← bn, b_append]
        have hr : plan_room.f c.f0 c.f1 c.f2 = some (c.f2 - ((co c).length : Int)) := by unfold plan_room.f; rw [e0, w64 (by omega) (by omega)]
        by_cases h1 : ph = 1
        · simp only [ne_eq, h3, h1, not_false_eq_true, if_true, hr, Option.bind_some, hz, hsz, hb]
          simp [toB, eOld, bo]
        · simp only [ne_eq, h3, h1, not_false_eq_true, if_true, hr, Option.bind_some, hz, hsz, hb]
          simp [toB, eOld, eNew, bo, bn]
    rw [hst, Option.bind_some, entGo_eq ph r (i + 1) _ (fun x hx => h x (List.mem_cons_of_mem _ hx))]
    simp
theorem b_inj {x y : D} (h : b x = b y) : x = y := by rw [← b_data x, h, b_data]
theorem look_some {l : List En} (h : l.Pairwise (fun e f => apt e.key f.key = true)) {e : En} (he : e ∈ l) : lookE ((l.map toB).reverse ++ []) (b e.key) = some (e.idx, e.len, b e.st) := by
  unfold lookE
  have hm : toB e ∈ ((l.map toB).reverse ++ []) := by simp; exact ⟨e, he, rfl⟩
  cases hf : (((l.map toB).reverse ++ []).find? (fun p : ByteArray × Ent => decide (p.1 = b e.key))) with
  | none =>
    have := List.find?_eq_none.mp hf (toB e) hm
    simp [toB] at this
  | some y =>
    have h1 := List.find?_some hf
    have h2 := List.mem_of_find?_eq_some hf
    simp at h2
    obtain ⟨f, hf', rfl⟩ := h2
    simp [toB] at h1
    have := b_inj (of_decide_eq_true h1)
    rcases pair_eq h he hf' with h3 | h3
    · rw [← h3]; rfl
    · rw [apt_iff, this] at h3
      exact absurd (List.prefix_refl _) h3.1
theorem look_none {l : List En} {s : D} (h : ∀ e ∈ l, e.key ≠ s) : lookE ((l.map toB).reverse ++ []) (b s) = none := by
  unfold lookE
  rw [Option.map_eq_none_iff, List.find?_eq_none]
  intro x hx
  simp at hx
  obtain ⟨f, hf, rfl⟩ := hx
  simp [toB]
  exact decide_eq_false (fun e => h f hf (b_inj e))
theorem ext_take (d : D) (k : Nat) : (b d).extract 0 k = b (d.take k) := by
  apply ba_ext; rw [Lib.extract_data, b_data, b_data]; simp
theorem loop_none {l : List En} {d : D} (h : ∀ e ∈ l, ¬ e.key <+: d) : ∀ m k, readLoop ((l.map toB).reverse ++ []) (b d) m k = some none
  | 0, k => rfl
  | m + 1, k => by
    rw [readLoop, ext_take, look_none (fun e he hk => h e he (by rw [hk]; exact List.take_prefix _ _))]
    exact loop_none h m (k + 1)
theorem loop_hit {l : List En} (h : l.Pairwise (fun e f => apt e.key f.key = true)) {d : D} (hd : digs d = true) (hl : d.length ≤ 16) {e : En} (he : e ∈ l) (ho : EnOk e) (hp : e.key <+: d) : ∀ m k, k ≤ e.key.length → e.key.length < m + k →
    readLoop ((l.map toB).reverse ++ []) (b d) m k = some (some ((hitS e d).1, (hitS e d).2.1, (hitS e d).2.2.1, (hitS e d).2.2.2.1))
  | 0, k, h1, h2 => by omega
  | m + 1, k, h1, h2 => by
    rw [readLoop, ext_take]
    have hkl := hp.length_le
    by_cases hk : k = e.key.length
    · have : d.take k = e.key := by rw [hk]; exact (List.prefix_iff_eq_take.mp hp).symm
      rw [this, look_some h he]
      simp only [b_size]
      have b1 := ho.kl; have b2 := ho.l8; have b3 := ho.tot; have b4 := ho.key5; have b5 := ho.s1
      unfold hitS
      by_cases hs : (d.length : Int) < e.len
      · simp only [hs, if_true]
      · simp only [hs, if_false]
        have ex : ((b d).extract k e.len.toNat).data.toList = (d.drop e.key.length).take (e.len.toNat - e.key.length) := by rw [Lib.extract_data, b_data, hk]
        have exl : ((b d).extract k e.len.toNat).size = e.len.toNat - e.key.length := by rw [Lib.size_eq, ex, List.length_take, List.length_drop]; omega
        have eb : (b e.st ++ (b d).extract k e.len.toNat) = b (e.st ++ (d.drop e.key.length).take (e.len.toNat - e.key.length)) := by
          apply ba_ext; simp only [ByteArray.data_append, Array.toList_append, ex, b_data]
        rw [if_pos ⟨by omega, by omega, by omega⟩, eb]
        have hdig : digs (e.st ++ (d.drop e.key.length).take (e.len.toNat - e.key.length)) = true := by
          rw [digs_append, ho.sd, Bool.true_and]
          unfold digs at hd ⊢
          rw [List.all_eq_true] at hd ⊢
          exact fun x hx => hd x (List.mem_of_mem_drop (List.mem_of_mem_take hx))
        have hlen : (e.st ++ (d.drop e.key.length).take (e.len.toNat - e.key.length)).length = 8 := by rw [List.length_append, List.length_take, List.length_drop]; omega
        rw [atoi_eq _ (by rw [b_size, hlen]; omega) (by rw [b_data]; exact hdig) (by rw [b_size, hlen]; omega)]
        simp only [Option.bind_some, b_data]
    · have : ∀ f ∈ l, f.key ≠ d.take k := by
        intro f hf hkey
        have hfp : f.key <+: d := by rw [hkey]; exact List.take_prefix _ _
        have := pair_hit h he hf hp hfp
        rw [← this] at hkey
        have : e.key.length = k := by rw [hkey, List.length_take]; omega
        omega
      rw [look_none this]
      exact loop_hit h hd hl he ho hp m (k + 1) (by omega) (by omega)
theorem any_eq (l : List En) (d : D) : (((l.map toB).reverse ++ []).any (fun p => Lib.hasPrefix p.1.data.toList (b d).data.toList)) = l.any (fun e => d.isPrefixOf e.key) := by
  unfold Lib.hasPrefix
  simp only [List.append_nil, List.any_reverse, List.any_map, b_data]
  have : ((fun p : ByteArray × Ent => d.isPrefixOf p.1.data.toList) ∘ toB) = (fun e => d.isPrefixOf e.key) := by funext e; simp [toB, b_data]
  simp [Function.comp_def, toB, b_data]
theorem hit5 (e : En) (d : D) : ((hitS e d).1, (hitS e d).2.1, (hitS e d).2.2.1, (hitS e d).2.2.2.1, (0 : Int)) = hitS e d := by
  unfold hitS; split <;> rfl
theorem rest_eq (p : List S29) (hv : vp p = true) (ph : Int) (d : D) (hd : digs d = true) (hl : d.length ≤ 16) : plan_ReadRest p (b d) ph = some (rS p d ph) := by
  have h20 := vp_len hv
  have ho : ∀ c ∈ p, One c := fun c hc => vp_one hv hc
  have hpair := ents_pair (ph := ph) (i := 0) (vp_pair hv) ho
  unfold plan_ReadRest
  rw [if_pos ⟨by omega, by rw [b_size]; omega⟩, entGo_eq ph p 0 [] ho, Option.bind_some]
  unfold rS rE
  cases hf : (ents ph p 0).find? (fun e => e.key.isPrefixOf d) with
  | none =>
    have hn : ∀ e ∈ ents ph p 0, ¬ e.key <+: d := by
      intro e he hp
      have := List.find?_eq_none.mp hf e he
      rw [List.isPrefixOf_iff_prefix] at this
      exact this hp
    rw [loop_none hn, Option.bind_some]
    simp only [readEnd, any_eq]
  | some e =>
    have h1 := List.find?_some hf
    have h2 := List.mem_of_find?_eq_some hf
    rw [List.isPrefixOf_iff_prefix] at h1
    have hk := h1.length_le
    rw [loop_hit hpair hd hl h2 (ents_ok ho h2) h1 _ 0 (by omega) (by rw [b_size]; omega), Option.bind_some]
    simp only [readEnd, hit5]
theorem read_ev (p : List S29) (hv : vp p = true) (ph : Int) (hp : okPh ph = true) (d : D) (hd : digs d = true) (hl : d.length ≤ 16) : Ev (fun k => plan_Read.f k p (b d) ph) (rS p d ph) := by
  have h20 := vp_len hv
  unfold plan_Read.f
  refine Ev.bind (valid_ev p (by omega) (vp_small hv)) ?_
  have h1 : ¬ (16 : Int) < (d.length : Int) := by omega
  simp only [hv, if_true, isDigits_eq (b d) (by rw [b_size]; omega), b_data, hd, Option.bind_some, b_size, h1, if_false, isPhase_eq, hp, rest_eq p hv ph d hd hl]
  exact Ev.now _
end Go.Proofs.YtlmfoblgheepoaaGreatDoor.Pure
end
section
namespace Go.Proofs.YtlmfoblgheepoaaGreatDoor.Pure
open Go.RowKit Go.Proofs.YtlmfoblgheepoaaGreatDoorW.PrintWords Go.Proofs.YtlmfoblgheepoaaGreatDoorW.PrintLast Go.Proofs.YtlmfoblgheepoaaGreatDoorW.PrintMore Go.Proofs.YtlmfoblgheepoaaGreatDoor.Pl
set_option linter.unusedVariables false
set_option linter.unusedSimpArgs false
def Ints1 (l : List Int) : Prop := ∀ x ∈ l, J64 x
theorem text_from (l : List Int) (hl : Ints1 l) : ∀ m i : Nat, m + i = l.length → ∀ s : D, digs s = true → s.length = i → i ≤ 17 → ∃ t : D, digs t = true ∧ t.length = min 17 l.length ∧ Ev (fun k => dialtonelaw12_text.l0 k l (b s) (i : Int)) (b t) := by
  intro m
  induction m with
  | zero =>
    intro i hi s hd hs h17
    refine ⟨s, hd, by omega, Ev.step (fun k => by rw [dialtonelaw12_text.l0]) ?_⟩
    have h1 : ¬ ((i : Int) < l.length) := by omega
    simp only [h1, if_false]
    exact Ev.now _
  | succ m ih =>
    intro i hi s hd hs h17
    have h1 : ((i : Int) < l.length) := by omega
    have hil : i < l.length := by omega
    by_cases h : i < 17
    · have h2 : ((i : Int) < 17) := by omega
      have h3 : (0 : Int) ≤ i := by omega
      have hr : rd l (i : Int) = l[i] := by unfold rd; simp [hil]
      obtain ⟨r, lr, er⟩ := pick_lt l[i] (hl _ (List.getElem_mem hil)) 10 (by decide)
      have er' : dialtonelaw12_pick.f l[i] 10 = some (r : Int) := er
      have hb : strOfNums [wrap64 (48 + (r : Int)) % 256] = b [dg r] := by
        have := one_dig r
        rw [Int.tmod_eq_emod_of_nonneg (by omega)] at this
        have e : (r : Int) % 10 = r := by omega
        rw [e] at this
        exact this
      obtain ⟨t, ht1, ht2, ht3⟩ := ih (i + 1) (by omega) (s ++ [dg r]) (by rw [digs_append, hd]; simp [digs, dg_isD]) (by simp; omega) (by omega)
      refine ⟨t, ht1, ht2, Ev.step (fun k => by rw [dialtonelaw12_text.l0]) ?_⟩
      have h4 : (b s).size + (b [dg r]).size ≤ 9223372036854775807 := by rw [b_size, b_size]; simp; omega
      simp only [h1, h2, h3, if_true, hr, er', Option.bind_some, hb, h4, b_append, wi i (by omega)]
      exact ht3
    · have h2 : ¬ ((i : Int) < 17) := by omega
      refine ⟨s, hd, by omega, Ev.step (fun k => by rw [dialtonelaw12_text.l0]) ?_⟩
      simp only [h1, h2, if_true, if_false]
      exact Ev.now _
theorem text_ev (l : List Int) (hl : Ints1 l) : ∃ t : D, digs t = true ∧ t.length = min 17 l.length ∧ Ev (fun k => dialtonelaw12_text.f k l) (b t) := by
  obtain ⟨t, h1, h2, h3⟩ := text_from l hl l.length 0 (by omega) [] rfl rfl (by omega)
  exact ⟨t, h1, h2, by simpa [dialtonelaw12_text.f, b] using h3⟩
theorem text_take (l : List Int) (hl : Ints1 l) (n : Nat) (hn : n ≤ 17) (hlen : l.length ≤ 9223372036854775807) : ∃ t : D, digs t = true ∧ t.length ≤ n ∧ (0 : Int) ≤ mn (l.length : Int) n ∧ mn (l.length : Int) n ≤ l.length ∧ Ev (fun k => dialtonelaw12_text.f k (l.take (mn (l.length : Int) n).toNat)) (b t) := by
  obtain ⟨t, h1, h2, h3⟩ := text_ev (l.take (mn (l.length : Int) n).toNat) (fun x hx => hl x (List.mem_of_mem_take hx))
  have hm : 0 ≤ mn (l.length : Int) n ∧ mn (l.length : Int) n ≤ l.length ∧ mn (l.length : Int) n ≤ n := by unfold mn; split <;> omega
  refine ⟨t, h1, ?_, hm.1, hm.2.1, h3⟩
  rw [h2, List.length_take]; omega
end Go.Proofs.YtlmfoblgheepoaaGreatDoor.Pure
end
section
namespace Go.Proofs.YtlmfoblgheepoaaGreatDoor.Pure
open Go.RowKit Go.Proofs.YtlmfoblgheepoaaGreatDoorW.PrintWords Go.Proofs.YtlmfoblgheepoaaGreatDoorW.PrintLast Go.Proofs.YtlmfoblgheepoaaGreatDoorW.PrintMore Go.Proofs.YtlmfoblgheepoaaGreatDoor.Pl
set_option linter.unusedVariables false
set_option linter.unusedSimpArgs false
theorem ents_two {p : List S29} {e : En} : e ∈ ents 2 p 0 ↔ e ∈ ents 1 p 0 ∨ e ∈ ents 3 p 0 := by
  simp only [ents_mem]
  constructor
  · rintro ⟨i, hi, h | h⟩
    · exact .inl ⟨i, hi, .inl ⟨by decide, h.2⟩⟩
    · exact .inr ⟨i, hi, .inr ⟨by decide, h.2⟩⟩
  · rintro (⟨i, hi, h | h⟩ | ⟨i, hi, h | h⟩)
    · exact ⟨i, hi, .inl ⟨by decide, h.2⟩⟩
    · exact absurd rfl h.1
    · exact absurd rfl h.1
    · exact ⟨i, hi, .inr ⟨by decide, h.2⟩⟩
theorem ents_len1 {p : List S29} (hv : vp p = true) {e : En} (h : e ∈ ents 1 p 0) : e.len ≤ 7 := by
  rw [ents_mem] at h
  obtain ⟨i, hi, h | h⟩ := h
  · rw [h.2]; exact (vp_one hv (List.getElem_mem hi)).l7
  · exact absurd rfl h.1
theorem ents_len3 {p : List S29} {e : En} (h : e ∈ ents 3 p 0) : e.len = 8 := by
  rw [ents_mem] at h
  obtain ⟨i, hi, h | h⟩ := h
  · exact absurd rfl h.1
  · rw [h.2]; rfl
theorem rE_hit {l : List En} (h : l.Pairwise (fun e f => apt e.key f.key = true)) {e : En} (he : e ∈ l) {d : D} (hp : e.key <+: d) : rE l d = hitS e d := by
  unfold rE
  cases hf : l.find? (fun e => e.key.isPrefixOf d) with
  | none =>
    have := List.find?_eq_none.mp hf e he
    rw [List.isPrefixOf_iff_prefix] at this
    exact absurd hp this
  | some f =>
    have h1 := List.find?_some hf
    have h2 := List.mem_of_find?_eq_some hf
    rw [List.isPrefixOf_iff_prefix] at h1
    rw [pair_hit h he h2 hp h1]
theorem rE_miss {l : List En} {d : D} (hn : ∀ e ∈ l, ¬ e.key <+: d) : rE l d = if l.any (fun e => d.isPrefixOf e.key) = true then (1, 0, 0, 0, 0) else (0, 0, 0, 0, 0) := by
  unfold rE
  cases hf : l.find? (fun e => e.key.isPrefixOf d) with
  | none => rfl
  | some f =>
    have h1 := List.find?_some hf
    have h2 := List.mem_of_find?_eq_some hf
    rw [List.isPrefixOf_iff_prefix] at h1
    exact absurd h1 (hn f h2)
theorem rE_cases (l : List En) (d : D) : (∃ e ∈ l, e.key <+: d) ∨ (∀ e ∈ l, ¬ e.key <+: d) := by
  by_cases h : ∃ e ∈ l, e.key <+: d
  · exact .inl h
  · exact .inr (fun e he hp => h ⟨e, he, hp⟩)
theorem any_pre (l : List En) (d : D) : l.any (fun e => d.isPrefixOf e.key) = true ↔ ∃ e ∈ l, d <+: e.key := by
  rw [List.any_eq_true]
  constructor
  · rintro ⟨e, he, h⟩; exact ⟨e, he, List.isPrefixOf_iff_prefix.mp h⟩
  · rintro ⟨e, he, h⟩; exact ⟨e, he, List.isPrefixOf_iff_prefix.mpr h⟩
theorem hit_more {e : En} {d : D} (h : (d.length : Int) < e.len) : hitS e d = (1, 0, 0, 0, 0) := by unfold hitS; rw [if_pos h]
theorem hit_num {e : En} {d : D} (h : ¬ (d.length : Int) < e.len) : hitS e d = (2, (val (e.st ++ (d.drop e.key.length).take (e.len.toNat - e.key.length)) : Int), e.idx, e.len, 0) := by unfold hitS; rw [if_neg h]
theorem rE_kind {l : List En} (h : l.Pairwise (fun e f => apt e.key f.key = true)) (d : D) :
    (rE l d = (0, 0, 0, 0, 0) ∧ (∀ e ∈ l, ¬ e.key <+: d) ∧ (∀ e ∈ l, ¬ d <+: e.key)) ∨ (rE l d = (1, 0, 0, 0, 0) ∧ ((∃ e ∈ l, e.key <+: d ∧ (d.length : Int) < e.len) ∨ ((∀ e ∈ l, ¬ e.key <+: d) ∧ ∃ e ∈ l, d <+: e.key))) ∨ (∃ e ∈ l, e.key <+: d ∧ ¬ (d.length : Int) < e.len ∧ rE l d = hitS e d) := by
  rcases rE_cases l d with ⟨e, he, hp⟩ | hn
  · have := rE_hit h he hp
    by_cases hl : (d.length : Int) < e.len
    · exact .inr (.inl ⟨by rw [this, hit_more hl], .inl ⟨e, he, hp, hl⟩⟩)
    · exact .inr (.inr ⟨e, he, hp, hl, this⟩)
  · have := rE_miss hn
    by_cases ha : l.any (fun e => d.isPrefixOf e.key) = true
    · exact .inr (.inl ⟨by rw [this, if_pos ha], .inr ⟨hn, (any_pre l d).mp ha⟩⟩)
    · refine .inl ⟨by rw [this, if_neg ha], hn, fun e he hp => ha ((any_pre l d).mpr ⟨e, he, hp⟩)⟩
end Go.Proofs.YtlmfoblgheepoaaGreatDoor.Pure
end
section
namespace Go.Proofs.YtlmfoblgheepoaaGreatDoor.Pure
open Go.RowKit Go.Proofs.YtlmfoblgheepoaaGreatDoorW.PrintWords Go.Proofs.YtlmfoblgheepoaaGreatDoorW.PrintLast Go.Proofs.YtlmfoblgheepoaaGreatDoorW.PrintMore Go.Proofs.YtlmfoblgheepoaaGreatDoor.Pl
set_option linter.unusedVariables false
set_option linter.unusedSimpArgs false
theorem wS_first {p : List S29} (hv : vp p = true) (m : Nat) (ph : Int) : digs (wS p m ph).1 = true ∧ (wS p m ph).1.length ≤ 8 := by
  rcases wS_form hv m ph with hW | ⟨f, e, hW, hF⟩
  · rw [hW]; exact ⟨rfl, by decide⟩
  · rw [hW]
    refine ⟨hF.dig, ?_⟩
    have := hF.len
    by_cases h : ph = 1
    · have := hF.old h; show f.length ≤ 8; omega
    · have := (hF.new h).1; show f.length ≤ 8; omega
end Go.Proofs.YtlmfoblgheepoaaGreatDoor.Pure
end
